/- StreamWell: a part of the proof. -/
import Derived.Test.YtiiiphndmbabcaaGreatChecked
import Derived.WalkKit
import Derived.ProofKit
import Derived.OpenShut
set_option linter.all false
namespace Go.Proofs.YtiiiphndmbabcaaGreat
namespace frame
open Go.ChangeShapes Go.WideShapes Go.ChangeAt Go.RowKit
section
variable {H:Type} {ba:TypeId×Value->H} {P:Program}
theorem AU {W g:World} {sp:Nat->Bool} (hl:laidOutB P):
  ∀{f:List TypeId} {i:List Value} {ds:List (DataW H)} {e:List MemPlace},(∀t∈f,P.readableRec t/\t<P.types.size)->
   DataW.TrodAll ba P W 0 (λ_=>true) true f i ds e->(∀x∈e,W.sameAt g x)->(∀x∈e,sp x.block)->DataW.TrodAll ba P g 0 sp true f i ds e
 | [],_,_,_,_,h,_,_=>by
  obtain⟨rfl,rfl,rfl⟩:=trodAll_nil h;exact trodAll_mk0
 | t::f,_,_,_,hr,h,hx,hs=>by
  obtain⟨v,l,d,j,a,b,rfl,rfl,rfl,h1,k⟩:=trodAll_cons h;have ht:=hr t (by simp);exact trodAll_cons_mk (WideElems.Trod_stays hl ht.1 ht.2 h1 (λx c=>hx x (by simp[c])) (λx c=>hs x (by simp[c])))
   (AU hl (λt c=>hr t (by simp[c])) k (λx c=>hx x (by simp[c])) (λx c=>hs x (by simp[c])))
def V7 {f:Func} {s:ChangeSpec} {apart fresh handsOn again:Bool} {W g:World} {args:Array Value} {ds gs:List (DataW H)} {before:List MemPlace} {B:TypeId}
  (k:DataW.Whole ba P f.params.toList s.vars apart W args.toList ds gs before) (y:s.vars=[])
  (hs:s.fn H (ds++gs)={ results:=[.lit (.bool true)],args:=ds }) (hl:laidOutB P) (D:∀t∈f.params.toList,P.readableRec t/\t<P.types.size)
  (c:f.resultTypes=#[B]) (r:P.underlying B=some .bool) (m:Below W.heap.size W g):
  s.post ba P f apart fresh handsOn again W args (.bool true) g:=by
 have d:∀p∈before,p.block<W.heap.size:=λp a=>k.lt p a
 have hold:∀p∈before,(λb=>decide (b<W.heap.size)) p.block:=λp a=>by simpa using d p a
 have e:∀p∈before,W.sameAt g p:=λp a=>m.same (d p a)
 have l:=k;obtain⟨p,q,z,v,rfl,hz,C⟩:=k;rw[y] at v;obtain⟨rfl,rfl⟩:=trodVars_none v;have h:∀sp:Nat->Bool,(∀x∈p,sp x.block)->DataW.TrodAll ba P g 0 sp true f.params.toList args.toList (s.fn H (ds++[])).args p:=by
  intro sp n;rw[hs];exact AU hl D z (λx o=>e x (by simp[o])) n
 have i:∀sp:Nat->Bool,DataW.TrodVars ba P g sp s.vars (s.fn H (ds++[])).vars []:=by
  intro sp;rw[hs,y];rfl
 have u:∀(b:Nat) (sp:Nat->Bool) (w:Bool),DataW.TrodAll ba P g b sp w f.resultTypes.toList ((Value.bool true).resultList f.resultTypes.size) (s.fn H (ds++[])).results []:=by
  intro b sp w;rw[hs,c];exact trodAll_cons_mk (shut_bool r _) trodAll_mk0
 refine⟨ds,[],p++[],[],p,[],l,u _ _ _,h _ (λx o=>hold x (by simp[o])),i _,World.keptBut_mono (λp a=>⟨a,?_⟩) (m.frame (· ∈p++[])),λ_=>?_⟩
 ·simpa using a
 ·refine⟨?_,_,_,([]++p)++[],⟨[]++p,[],trodAll_append (h _ (λ_ _=>rfl)) (u _ _ _),i _,rfl,?_,?_⟩,?_⟩
  ·exact ok_one c rfl (okWide_bool_mk r _)
  ·intro b off a;have j:MemPlace.cell b off∈p++[]:=by simpa using a
   rw[m.frozen (d _ j)];exact hz b off j
  ·intro A;have:=C A;simpa using this
  ·intro p a _;simpa using a
end
end frame
end Go.Proofs.YtiiiphndmbabcaaGreat
