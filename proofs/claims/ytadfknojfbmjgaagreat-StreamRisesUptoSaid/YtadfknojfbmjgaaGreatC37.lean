/- StreamRises: whatever the input of bulk at most 1048576, the call returns true and leaves what was there as it was. The bound is the only condition. -/
import Derived.Test.YtadfknojfbmjgaaGreatRows
import Derived.Test.YtadfknojfbmjgaaGreatC30
import Derived.Test.YtadfknojfbmjgaaGreatC31
import Derived.Test.YtadfknojfbmjgaaGreatC32
import Derived.Test.YtadfknojfbmjgaaGreatC34
import Derived.Test.YtadfknojfbmjgaaGreatC35
import Derived.Test.YtadfknojfbmjgaaGreatC36
import Derived.JoinedCond
set_option linter.all false
namespace Go.Proofs.YtadfknojfbmjgaaGreat
namespace sx
open Go Go.RowKit
def QmO:Ok tL:=Qlt QmG WB QmB
def QmP:Ok lwC:=QtY QmO (Ql2 (QmN xu)) WB (Qmo QmO WB)
end sx
set_option maxRecDepth 100000
namespace streamRises
open Go.ChangeShapes Go.WideShapes Go.ChangeAt Go.RowKit
variable {Z:Type} {W:World} {Y:Nat} {v:Value} {p:List MemPlace}
variable {d:DataW Z} {X:TypeId×Value->Z}
def own:ownKnob Tryz.prog.godebug=none:=by kernel_rfl
theorem OA {l:List (DataW Z)} (h:d∈l):Rows.uptoBulk d<=Rows.uptoBulkAll l:=by
 induction l with
 | nil=>cases h
 | cons x r a=>
  simp only[Rows.uptoBulkAll];cases Zbf.1 h with
  | inl e=>subst e;omega
  | inr e=>have:=a e;omega
def Qbk (b:Value.okWide Tryz.prog W .any Y 24 v) (h:DataW.Trod X Tryz.prog W 0 (λ_=>true) true 24 v d p):
  ∃y:sx.b7,sx.VR (sx.lY W) (sx.Ff y) v:=by
 have hu:Tryz.prog.underlying 24=some (.struct (Tryz.prog.fieldsOf 24)):=by kernel_rfl
 obtain⟨cs,rfl,_⟩:=okWide_struct hu b;obtain⟨fuel,a⟩:=h;obtain⟨y,c⟩:=sx.Wo a;exact⟨y,sx.VR.Df c⟩
def WV (i:Value.okWide Tryz.prog W .any Y 25 v) (h:DataW.Trod X Tryz.prog W 0 (λ_=>true) true 25 v d p):
  ∃xs:List sx.mP,sx.VR (sx.lY W) (.list 19 (xs:List (sx.D.E 19))) v/\xs.length<=Rows.uptoBulk d/\∀r∈xs,r.piece.length<=Rows.uptoBulk d:=by
 have hu:Tryz.prog.underlying 25=some (.slice 51):=by kernel_rfl
 obtain⟨a0,len,cap,rfl⟩:=okWide_slice hu i;obtain⟨fuel,f⟩:=h;have h0:=sx.qQ 8 25 [.sl 51] _ _ _ (by kernel_rfl) f;obtain⟨v,r,w0,j,e,hs,_,k⟩:=h0.bX;obtain rfl:Value.slice a0 len cap=v:=by simp[Value.cells] at e;exact e.1
 obtain⟨xs,h1,b,c⟩:=sx.Wn hs;have a:w0<=Rows.uptoBulk d:=by show w0<=Rows.uptoBulk (d,p).1;omega
 exact⟨xs,h1,Zav b a,λr g=>Zav (c r g) a⟩
def Qbl (b:Value.okWide Tryz.prog W .any Y 3 v) (h:DataW.Trod X Tryz.prog W 0 (λ_=>true) true 3 v d p):
  ∃n:Int,sx.VR (sx.lY W) (.int .i64 n) v:=by
 have hu:Tryz.prog.underlying 3=some (.int .i64):=by kernel_rfl
 obtain⟨n,rfl⟩:=okWide_int hu b;obtain⟨fuel,a⟩:=h;have h0:=sx.qQ 8 3 [.int .i64] _ _ _ (by kernel_rfl) a;obtain⟨v,r,w0,c,e,⟨m,rfl,hw⟩,_,_⟩:=h0.bX;obtain rfl:n=m:=by simp[Value.cells] at e;exact e.1
 exact⟨n,.int (sx.Wi hw)⟩
theorem WW (H:Type) (aX:TypeId×Value->H) (W:World) (base:Nat) (args:Array Value) (f gs:List (DataW H)) (before:List MemPlace)
  (a:∀(j:Nat) t v,Tryz.f3.params[j]?=some t->args[j]?=some v->Value.okWide Tryz.prog W .any base t v)
  (z:DataW.Whole aX Tryz.prog Tryz.f3.params.toList Rows.streamRisesSpec.vars false W args.toList f gs before) (hk:Rows.uptoSmall H (f++gs)):
  Calls Tryz.prog 3 args W λe w=>∃v,e=.returned v/\Rows.streamRisesSpec.post aX Tryz.prog Tryz.f3 false true false false W args v w:=by
 have g:=z;obtain⟨p,q,d,M,_,_,_⟩:=g;have d:DataW.TrodAll aX Tryz.prog W 0 (λ_=>true) true Tryz.f3.params.toList args.toList f p:=d;have O:Tryz.f3.params=#[24,25,3]:=by kernel_rfl
 rw[O] at d a;obtain⟨m,U,D,F,p0,q0,i,rfl,rfl,h0,Q⟩:=trodAll_cons d;obtain⟨s,V,x,G,p1,q1,rfl,rfl,rfl,h1,R⟩:=trodAll_cons Q;obtain⟨u,X,E,I,p2,q2,rfl,rfl,rfl,L,S⟩:=trodAll_cons R;obtain⟨rfl,rfl,rfl⟩:=trodAll_nil S;obtain⟨rfl,rfl⟩:=trodVars_none M;obtain rfl:args=#[m,s,u]:=by cases args;simp_all
 have N:Rows.uptoBulkAll ([D,x,E]++[])<=1048576:=ZaH hk;obtain⟨y,J⟩:=Qbk (a 0 24 m rfl rfl) h0;obtain⟨xs,K,b1,C⟩:=WV (a 1 25 s rfl rfl) h1;obtain⟨n,e2⟩:=Qbl (a 2 3 u rfl rfl) L;have Y:Rows.uptoBulk x<=1048576:=Zav (OA (by simp)) N;refine sx.QmP.2 (⟨y,xs,n⟩,sx.Wc ⟨y,xs,n⟩) ⟨by show xs.length<=_;omega,λr P=>by have:=C r P;omega,rfl⟩ (sx.lY W) #[m,s,u] W (.cons J (.cons K (.cons e2 .nil))) (sx.Ol W (Zaj _) trivial) (λ_ _=>rfl) _ λA T w l c=>?_
 have l:sx.VR A (.lit true) T:=l;cases l;refine⟨_,rfl,frame.WU (B:=4) z rfl rfl (by kernel_rfl) (by decide+kernel) rfl (by kernel_rfl) ⟨c.os,c.tape,c.output,c.size,λk hk=>c.aH k hk ?_⟩⟩;rintro⟨b,o,Z,h,_⟩;cases h
set_option maxRecDepth 100000 in
theorem lifted (os:Os) (started:os.Started) (H:Type) (aX:TypeId×Value->H) (F:Stop.Interp):
  ReturnsInHanded {} Tryz.checked os 3 .any ((Rows.OpenSpec.upto Rows.streamRisesSpec).pre6 aX Tryz.prog Tryz.f3 Rows.streamRisesUptoRow.domain false) (((Rows.OpenSpec.upto Rows.streamRisesSpec).at F).post aX Tryz.prog Tryz.f3 false true false false):=by
 refine returnsInHanded_of_cond (C:=Tryz.checked) (s:=Rows.OpenSpec.upto Rows.streamRisesSpec) (k:=Rows.uptoSmall) rfl own started (by kernel_rfl) (by kernel_rfl:Tryz.prog.funcs[3]?=some Tryz.f3)
  (OpenSpec.witness (enc:=aX) (C:=Tryz.checked) (s:=Rows.OpenSpec.upto Rows.streamRisesSpec) (k:=Rows.uptoSmall) rfl false ⟨#[],#[.agg #[.slice none 0 0,.string ⟨#[]⟩],.slice none 0 0,.int .i64 0],[]⟩ 8 (by kernel_rfl) (by kernel_rfl) (by kernel_rfl)
   (x:=([.agg [.nil,.lit (.string [])],.nil,.lit (.int .i64 0)],[],[])) (by kernel_rfl) rfl (by kernel_rfl)) ?_
 intro W base args b gs before a c _ hk _
 exact WW H aX W base args b gs before a c hk
def proved:Rows.StreamRisesUptoSaid:=
 OpenClaim.holds_of_cond 3 Tryz.f3 rfl rfl rfl rfl rfl rfl rfl ⟨rfl,rfl,rfl,rfl,rfl⟩ rfl rfl rfl rfl rfl name (by kernel_rfl:Tryz.prog.funcs[3]?=some Tryz.f3) facts
  (ZaH (by kernel_rfl)) (by unfold Func.isWrapper;first | (rw[Zac (by decide+kernel)];kernel_rfl) | (rw[Zaa (by decide+kernel)];exact⟨rfl,rfl⟩))
  (λos started H aX _ F=>lifted os started H aX F)
#print axioms proved
end streamRises
end Go.Proofs.YtadfknojfbmjgaaGreat
