/- StreamAgain: whatever the input of bulk at most 1048576, the call returns true and leaves what was there as it was. The bound is the only condition. -/
import Derived.Test.YtfkmlhnhkdbjeaaGreatRows
import Derived.Test.YtfkmlhnhkdbjeaaGreatC9
import Derived.Test.YtfkmlhnhkdbjeaaGreatC10
import Derived.Test.YtfkmlhnhkdbjeaaGreatC11
import Derived.Test.YtfkmlhnhkdbjeaaGreatC12
import Derived.JoinedCond
set_option linter.all false
namespace Go.Proofs.YtfkmlhnhkdbjeaaGreat
open Go.Proofs.Tryz
namespace sx
open Go Go.RowKit
def QpS:Ok uS:=QnK QpR Y' QpM
def QxO:Ok aqC:=Qxp QpS (Qoi (Qou yk)) Y' (Qpz QpS Y')
end sx
set_option maxRecDepth 100000
namespace streamAgain
open Go.ChangeShapes Go.WideShapes Go.ChangeAt Go.RowKit
variable {Z:Type} {W:World} {Y:Nat} {v:Value} {p:List MemPlace}
variable {d:DataW Z} {X:TypeId×Value->Z}
def own:ownKnob Tryz.prog.godebug=none:=by kernel_rfl
theorem QO {l:List (DataW Z)} (h:d∈l):Rows.uptoBulk d<=Rows.uptoBulkAll l:=by
 induction l with
 | nil=>cases h
 | cons x r a=>
  simp only[Rows.uptoBulkAll];cases Zbf.1 h with
  | inl e=>subst e;omega
  | inr e=>have:=a e;omega
def N6 (b:Value.okWide prog W .any Y 24 v) (h:DataW.Trod X prog W 0 (λ_=>true) true 24 v d p):
  ∃y:sx.cx,sx.VR (sx.mG W) (sx.Dv y) v:=by
 have hu:Tryz.prog.underlying 24=some (.struct (Tryz.prog.fieldsOf 24)):=by kernel_rfl
 obtain⟨cs,rfl,_⟩:=okWide_struct hu b;obtain⟨fuel,a⟩:=h;obtain⟨y,c⟩:=sx.Ys a;exact⟨y,sx.VR.Ek c⟩
def Ze (i:Value.okWide prog W .any Y 25 v) (h:DataW.Trod X prog W 0 (λ_=>true) true 25 v d p):
  ∃xs:List sx.mN,sx.VR (sx.mG W) (.list 19 (xs:List (sx.D.E 19))) v/\xs.length<=Rows.uptoBulk d/\∀r∈xs,r.piece.length<=Rows.uptoBulk d:=by
 have hu:Tryz.prog.underlying 25=some (.slice 61):=by kernel_rfl
 obtain⟨a0,len,cap,rfl⟩:=okWide_slice hu i;obtain⟨fuel,f⟩:=h;have h0:=sx.r7 8 25 [.sl 61] _ _ _ (by kernel_rfl) f;obtain⟨v,r,w0,j,e,hs,_,k⟩:=h0.bJ;obtain rfl:Value.slice a0 len cap=v:=by simp[Value.cells] at e;exact e.1
 obtain⟨xs,h1,b,c⟩:=sx.Yr hs;have a:w0<=Rows.uptoBulk d:=by show w0<=Rows.uptoBulk (d,p).1;omega
 exact⟨xs,h1,Zav b a,λr g=>Zav (c r g) a⟩
def Qdl (b:Value.okWide prog W .any Y 3 v) (h:DataW.Trod X prog W 0 (λ_=>true) true 3 v d p):
  ∃n:Int,sx.VR (sx.mG W) (.int .i64 n) v:=by
 have hu:Tryz.prog.underlying 3=some (.int .i64):=by kernel_rfl
 obtain⟨n,rfl⟩:=okWide_int hu b;obtain⟨fuel,a⟩:=h;have h0:=sx.r7 8 3 [.int .i64] _ _ _ (by kernel_rfl) a;obtain⟨v,r,w0,c,e,⟨m,rfl,hw⟩,_,_⟩:=h0.bJ;obtain rfl:n=m:=by simp[Value.cells] at e;exact e.1
 exact⟨n,.int (sx.Yn hw)⟩
theorem Zf (H:Type) (bm:TypeId×Value->H) (W:World) (base:Nat) (args:Array Value) (f gs:List (DataW H)) (before:List MemPlace)
  (a:∀(j:Nat) t v,Tryz.f3.params[j]?=some t->args[j]?=some v->Value.okWide prog W .any base t v)
  (A:DataW.Whole bm prog Tryz.f3.params.toList Rows.streamAgainSpec.vars false W args.toList f gs before) (hk:Rows.uptoSmall H (f++gs)):
  Calls prog 3 args W λe w=>∃v,e=.returned v/\Rows.streamAgainSpec.post bm prog Tryz.f3 false true false false W args v w:=by
 have g:=A;obtain⟨p,q,d,R,_,_,_⟩:=g;have d:DataW.TrodAll bm prog W 0 (λ_=>true) true Tryz.f3.params.toList args.toList f p:=d;have T:Tryz.f3.params=#[24,24,25,3]:=by kernel_rfl
 rw[T] at d a;obtain⟨m,vs0,E,I,p0,q0,i,rfl,rfl,h0,V⟩:=trodAll_cons d;obtain⟨s,vs1,F,J,p1,q1,rfl,rfl,rfl,h1,X⟩:=trodAll_cons V;obtain⟨u,vs2,x,K,p2,q2,rfl,rfl,rfl,P,Y⟩:=trodAll_cons X;obtain⟨v3,vs3,G,L,p3,q3,rfl,rfl,rfl,Q,Z⟩:=trodAll_cons Y;obtain⟨rfl,rfl,rfl⟩:=trodAll_nil Z;obtain⟨rfl,rfl⟩:=trodVars_none R;obtain rfl:args=#[m,s,u,v3]:=by cases args;simp_all
 have S:Rows.uptoBulkAll ([E,F,x,G]++[])<=1048576:=ZaH hk;obtain⟨y,M⟩:=N6 (a 0 24 m rfl rfl) h0;obtain⟨z,N⟩:=N6 (a 1 24 s rfl rfl) h1;obtain⟨xs,e2,b1,D⟩:=Ze (a 2 25 u rfl rfl) P;obtain⟨n,O⟩:=Qdl (a 3 3 v3 rfl rfl) Q;have b3:Rows.uptoBulk x<=1048576:=Zav (QO (by simp)) S;refine sx.QxO.2 (⟨y,z,xs,n⟩,sx.m_ (sx.iU z)) ⟨by show xs.length<=_;omega,λr U=>by have:=D r U;omega,rfl⟩ (sx.mG W) #[m,s,u,v3] W (.cons M (.cons N (.cons e2 (.cons O .nil)))) (sx.Qv W (Zaj _) trivial) (λ_ _=>rfl) _ λC v' w l c=>?_
 have l:sx.VR C (.lit true) v':=l;cases l;refine⟨_,rfl,frame.Zd (B:=4) A rfl rfl (by kernel_rfl) (by decide+kernel) rfl (by kernel_rfl) ⟨c.os,c.tape,c.output,c.size,λk hk=>c.aS k hk ?_⟩⟩;rintro⟨b,o,mi,h,_⟩;cases h
set_option maxRecDepth 100000 in
theorem lifted (os:Os) (started:os.Started) (H:Type) (bm:TypeId×Value->H) (F:Stop.Interp):
  ReturnsInHanded {} Tryz.checked os 3 .any ((Rows.OpenSpec.upto Rows.streamAgainSpec).pre6 bm prog Tryz.f3 Rows.streamAgainUptoRow.domain false) (((Rows.OpenSpec.upto Rows.streamAgainSpec).at F).post bm prog Tryz.f3 false true false false):=by
 refine returnsInHanded_of_cond (C:=Tryz.checked) (s:=Rows.OpenSpec.upto Rows.streamAgainSpec) (k:=Rows.uptoSmall) rfl own started (by kernel_rfl) (by kernel_rfl:Tryz.prog.funcs[3]?=some Tryz.f3)
  (OpenSpec.witness (enc:=bm) (C:=Tryz.checked) (s:=Rows.OpenSpec.upto Rows.streamAgainSpec) (k:=Rows.uptoSmall) rfl false ⟨#[],#[.agg #[.slice none 0 0,.string ⟨#[]⟩],.agg #[.slice none 0 0,.string ⟨#[]⟩],.slice none 0 0,.int .i64 0],[]⟩ 8 (by kernel_rfl) (by kernel_rfl) (by kernel_rfl)
   (x:=([.agg [.nil,.lit (.string [])],.agg [.nil,.lit (.string [])],.nil,.lit (.int .i64 0)],[],[])) (by kernel_rfl) rfl (by kernel_rfl)) ?_
 intro W base args b gs before a c _ hk _
 exact Zf H bm W base args b gs before a c hk
def proved:Rows.StreamAgainUptoSaid:=
 OpenClaim.holds_of_cond 3 Tryz.f3 rfl rfl rfl rfl rfl rfl rfl ⟨rfl,rfl,rfl,rfl,rfl⟩ rfl rfl rfl rfl rfl name (by kernel_rfl:Tryz.prog.funcs[3]?=some Tryz.f3) facts
  (ZaH (by kernel_rfl)) (by unfold Func.isWrapper;first | (rw[Zac (by decide+kernel)];kernel_rfl) | (rw[Zaa (by decide+kernel)];exact⟨rfl,rfl⟩))
  (λos started H bm _ F=>lifted os started H bm F)
#print axioms proved
end streamAgain
end Go.Proofs.YtfkmlhnhkdbjeaaGreat
