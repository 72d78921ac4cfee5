/- StreamTurned: a part of the proof. -/
import Derived.Test.YtklaonhcplaofaaGreatChecked
import Derived.WalkKit
import Derived.ProofKit
import Derived.OpenShut
set_option linter.all false
namespace Go.Proofs.YtklaonhcplaofaaGreat
namespace frame
open Go.ChangeShapes Go.WideShapes Go.ChangeAt Go.RowKit
section
variable {H:Type} {bd:TypeId×Value->H} {P:Program}
theorem AH {W g:World} {sp:Nat->Bool} (hl:laidOutB P):
  ∀{f:List TypeId} {j:List Value} {i:List (DataW H)} {e:List MemPlace},(∀t∈f,P.readableRec t/\t<P.types.size)->
   DataW.TrodAll bd P W 0 (λ_=>true) true f j i e->(∀x∈e,W.sameAt g x)->(∀x∈e,sp x.block)->DataW.TrodAll bd P g 0 sp true f j i e
 | [],_,_,_,_,h,_,_=>by
  obtain⟨rfl,rfl,rfl⟩:=trodAll_nil h;exact trodAll_mk0
 | t::f,_,_,_,hr,h,hx,hs=>by
  obtain⟨v,m,d,k,a,b,rfl,rfl,rfl,h1,l⟩:=trodAll_cons h;have ht:=hr t (by simp);exact trodAll_cons_mk (WideElems.Trod_stays hl ht.1 ht.2 h1 (λx c=>hx x (by simp[c])) (λx c=>hs x (by simp[c])))
   (AH hl (λt c=>hr t (by simp[c])) l (λx c=>hx x (by simp[c])) (λx c=>hs x (by simp[c])))
def V3 {f:Func} {s:ChangeSpec} {apart fresh handsOn again:Bool} {W h:World} {args:Array Value} {d gs:List (DataW H)} {before:List MemPlace} {B:TypeId}
  (l:DataW.Whole bd P f.params.toList s.vars apart W args.toList d gs before) (z:s.vars=[])
  (hs:s.fn H (d++gs)={ results:=[.lit (.bool true)],args:=d }) (hl:laidOutB P) (E:∀t∈f.params.toList,P.readableRec t/\t<P.types.size)
  (c:f.resultTypes=#[B]) (u:P.underlying B=some .bool) (n:Below W.heap.size W h):
  s.post bd P f apart fresh handsOn again W args (.bool true) h:=by
 have e:∀p∈before,p.block<W.heap.size:=λp a=>l.lt p a
 have hold:∀p∈before,(λb=>decide (b<W.heap.size)) p.block:=λp a=>by simpa using e p a
 have g:∀p∈before,W.sameAt h p:=λp a=>n.same (e p a)
 have m:=l;obtain⟨p,q,A,w,rfl,hz,D⟩:=l;rw[z] at w;obtain⟨rfl,rfl⟩:=trodVars_none w;have i:∀sp:Nat->Bool,(∀x∈p,sp x.block)->DataW.TrodAll bd P h 0 sp true f.params.toList args.toList (s.fn H (d++[])).args p:=by
  intro sp o;rw[hs];exact AH hl E A (λx r=>g x (by simp[r])) o
 have j:∀sp:Nat->Bool,DataW.TrodVars bd P h sp s.vars (s.fn H (d++[])).vars []:=by
  intro sp;rw[hs,z];rfl
 have v:∀(b:Nat) (sp:Nat->Bool) (y:Bool),DataW.TrodAll bd P h b sp y f.resultTypes.toList ((Value.bool true).resultList f.resultTypes.size) (s.fn H (d++[])).results []:=by
  intro b sp y;rw[hs,c];exact trodAll_cons_mk (shut_bool u _) trodAll_mk0
 refine⟨d,[],p++[],[],p,[],m,v _ _ _,i _ (λx r=>hold x (by simp[r])),j _,World.keptBut_mono (λp a=>⟨a,?_⟩) (n.frame (· ∈p++[])),λ_=>?_⟩
 ·simpa using a
 ·refine⟨?_,_,_,([]++p)++[],⟨[]++p,[],trodAll_append (i _ (λ_ _=>rfl)) (v _ _ _),j _,rfl,?_,?_⟩,?_⟩
  ·exact ok_one c rfl (okWide_bool_mk u _)
  ·intro b off a;have k:MemPlace.cell b off∈p++[]:=by simpa using a
   rw[n.frozen (e _ k)];exact hz b off k
  ·intro C;have:=D C;simpa using this
  ·intro p a _;simpa using a
end
end frame
end Go.Proofs.YtklaonhcplaofaaGreat
