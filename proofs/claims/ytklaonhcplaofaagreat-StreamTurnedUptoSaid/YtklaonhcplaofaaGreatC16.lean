/- StreamTurned: whatever the input of bulk at most 1048576, the call returns true and leaves what was there as it was. The bound is the only condition. -/
import Derived.Test.YtklaonhcplaofaaGreatRows
import Derived.Test.YtklaonhcplaofaaGreatC10
import Derived.Test.YtklaonhcplaofaaGreatC13
import Derived.Test.YtklaonhcplaofaaGreatC11
import Derived.Test.YtklaonhcplaofaaGreatC14
import Derived.Test.YtklaonhcplaofaaGreatC15
import Derived.JoinedCond
set_option linter.all false
namespace Go.Proofs.YtklaonhcplaofaaGreat
open Go.Proofs.Tryz
namespace sx
open Go Go.RowKit
def QrH:Ok xy:=Qh6 QjY Ll Qka
def tuA:Ok tuC:=Qrv QrH (QiF (QiR sT)) Ll Qj0
end sx
set_option maxRecDepth 100000
namespace streamTurned
open Go.ChangeShapes Go.WideShapes Go.ChangeAt Go.RowKit
variable {Z:Type} {W:World} {Y:Nat} {v:Value} {p:List MemPlace}
variable {d:DataW Z} {X:TypeId×Value->Z}
def own:ownKnob Tryz.prog.godebug=none:=by kernel_rfl
theorem N0 {l:List (DataW Z)} (h:d∈l):Rows.uptoBulk d<=Rows.uptoBulkAll l:=by
 induction l with
 | nil=>cases h
 | cons x r a=>
  simp only[Rows.uptoBulkAll];cases Zbf.1 h with
  | inl e=>subst e;omega
  | inr e=>have:=a e;omega
def ϫ (b:Value.okWide prog W .any Y 24 v) (h:DataW.Trod X prog W 0 (λ_=>true) true 24 v d p):
  ∃y:sx.cG,sx.VR (sx.lx W) (sx.Eo y) v:=by
 have hu:Tryz.prog.underlying 24=some (.struct (Tryz.prog.fieldsOf 24)):=by kernel_rfl
 obtain⟨cs,rfl,_⟩:=okWide_struct hu b;obtain⟨fuel,a⟩:=h;obtain⟨y,c⟩:=sx.UU a;exact⟨y,sx.VR.CC c⟩
def V4 (i:Value.okWide prog W .any Y 25 v) (h:DataW.Trod X prog W 0 (λ_=>true) true 25 v d p):
  ∃xs:List sx.l8,sx.VR (sx.lx W) (.list 19 (xs:List (sx.D.E 19))) v/\xs.length<=Rows.uptoBulk d/\∀r∈xs,r.piece.length<=Rows.uptoBulk d:=by
 have hu:Tryz.prog.underlying 25=some (.slice 54):=by kernel_rfl
 obtain⟨a0,len,cap,rfl⟩:=okWide_slice hu i;obtain⟨fuel,f⟩:=h;have h0:=sx.qt 8 25 [.sl 54] _ _ _ (by kernel_rfl) f;obtain⟨v,r,w0,j,e,hs,_,k⟩:=h0.bD;obtain rfl:Value.slice a0 len cap=v:=by simp[Value.cells] at e;exact e.1
 obtain⟨xs,h1,b,c⟩:=sx.UT hs;have a:w0<=Rows.uptoBulk d:=by show w0<=Rows.uptoBulk (d,p).1;omega
 exact⟨xs,h1,Zav b a,λr g=>Zav (c r g) a⟩
def Lo (b:Value.okWide prog W .any Y 3 v) (h:DataW.Trod X prog W 0 (λ_=>true) true 3 v d p):
  ∃n:Int,sx.VR (sx.lx W) (.int .i64 n) v:=by
 have hu:Tryz.prog.underlying 3=some (.int .i64):=by kernel_rfl
 obtain⟨n,rfl⟩:=okWide_int hu b;obtain⟨fuel,a⟩:=h;have h0:=sx.qt 8 3 [.int .i64] _ _ _ (by kernel_rfl) a;obtain⟨v,r,w0,c,e,⟨m,rfl,hw,_⟩,_,_⟩:=h0.bD;obtain rfl:n=m:=by simp[Value.cells] at e;exact e.1
 exact⟨n,.int (sx.UP hw)⟩
theorem V5 (H:Type) (bd:TypeId×Value->H) (W:World) (base:Nat) (args:Array Value) (f gs:List (DataW H)) (before:List MemPlace)
  (a:∀(j:Nat) t v,Tryz.f3.params[j]?=some t->args[j]?=some v->Value.okWide prog W .any base t v)
  (A:DataW.Whole bd prog Tryz.f3.params.toList Rows.streamTurnedSpec.vars false W args.toList f gs before) (hk:Rows.uptoSmall H (f++gs)):
  Calls prog 3 args W λe x=>∃v,e=.returned v/\Rows.streamTurnedSpec.post bd prog Tryz.f3 false true false false W args v x:=by
 have g:=A;obtain⟨p,q,d,R,_,_,_⟩:=g;have d:DataW.TrodAll bd prog W 0 (λ_=>true) true Tryz.f3.params.toList args.toList f p:=d;have T:Tryz.f3.params=#[24,25,3,3]:=by kernel_rfl
 rw[T] at d a;obtain⟨s,vs0,E,I,p0,q0,i,rfl,rfl,h0,V⟩:=trodAll_cons d;obtain⟨u,vs1,z,J,p1,q1,rfl,rfl,rfl,h1,X⟩:=trodAll_cons V;obtain⟨w,vs2,F,K,p2,q2,rfl,rfl,rfl,P,Y⟩:=trodAll_cons X;obtain⟨v3,vs3,G,L,p3,q3,rfl,rfl,rfl,Q,Z⟩:=trodAll_cons Y;obtain⟨rfl,rfl,rfl⟩:=trodAll_nil Z;obtain⟨rfl,rfl⟩:=trodVars_none R;obtain rfl:args=#[s,u,w,v3]:=by cases args;simp_all
 have S:Rows.uptoBulkAll ([E,z,F,G]++[])<=1048576:=ZaH hk;obtain⟨y,M⟩:=ϫ (a 0 24 s rfl rfl) h0;obtain⟨xs,N,b1,D⟩:=V4 (a 1 25 u rfl rfl) h1;obtain⟨n,e2⟩:=Lo (a 2 3 w rfl rfl) P;obtain⟨m,O⟩:=Lo (a 3 3 v3 rfl rfl) Q;have b3:Rows.uptoBulk z<=1048576:=Zav (N0 (by simp)) S;refine sx.tuA.2 ⟨y,xs,n,m⟩ ⟨by show xs.length<=_;omega,λr U=>by have:=D r U;omega⟩ (sx.lx W) #[s,u,w,v3] W (.cons M (.cons N (.cons e2 (.cons O .nil)))) (sx.Np W (Zaj _) trivial) (λ_ _=>rfl) _ λC v' x l c=>?_
 have l:sx.VR C (.lit true) v':=l;cases l;refine⟨_,rfl,frame.V3 (B:=4) A rfl rfl (by kernel_rfl) (by decide+kernel) rfl (by kernel_rfl) ⟨c.os,c.tape,c.output,c.size,λk hk=>c.aN k hk ?_⟩⟩;rintro⟨b,o,mi,h,_⟩;cases h
set_option maxRecDepth 100000 in
theorem lifted (os:Os) (started:os.Started) (H:Type) (bd:TypeId×Value->H) (F:Stop.Interp):
  ReturnsInHanded {} Tryz.checked os 3 .any ((Rows.OpenSpec.upto Rows.streamTurnedSpec).pre6 bd prog Tryz.f3 Rows.streamTurnedUptoRow.domain false) (((Rows.OpenSpec.upto Rows.streamTurnedSpec).at F).post bd prog Tryz.f3 false true false false):=by
 refine returnsInHanded_of_cond (C:=Tryz.checked) (s:=Rows.OpenSpec.upto Rows.streamTurnedSpec) (k:=Rows.uptoSmall) rfl own started (by kernel_rfl) (by kernel_rfl:Tryz.prog.funcs[3]?=some Tryz.f3)
  (OpenSpec.witness (enc:=bd) (C:=Tryz.checked) (s:=Rows.OpenSpec.upto Rows.streamTurnedSpec) (k:=Rows.uptoSmall) rfl false ⟨#[],#[.agg #[.slice none 0 0,.string ⟨#[]⟩],.slice none 0 0,.int .i64 0,.int .i64 0],[]⟩ 8 (by kernel_rfl) (by kernel_rfl) (by kernel_rfl)
   (x:=([.agg [.nil,.lit (.string [])],.nil,.lit (.int .i64 0),.lit (.int .i64 0)],[],[])) (by kernel_rfl) rfl (by kernel_rfl)) ?_
 intro W base args b gs before a c _ hk _
 exact V5 H bd W base args b gs before a c hk
def proved:Rows.StreamTurnedUptoSaid:=
 OpenClaim.holds_of_cond 3 Tryz.f3 rfl rfl rfl rfl rfl rfl rfl ⟨rfl,rfl,rfl,rfl,rfl⟩ rfl rfl rfl rfl rfl name (by kernel_rfl:Tryz.prog.funcs[3]?=some Tryz.f3) facts
  (ZaH (by kernel_rfl)) (by unfold Func.isWrapper;first | (rw[Zac (by decide+kernel)];kernel_rfl) | (rw[Zaa (by decide+kernel)];exact⟨rfl,rfl⟩))
  (λos started H bd _ F=>lifted os started H bd F)
#print axioms proved
end streamTurned
end Go.Proofs.YtklaonhcplaofaaGreat
