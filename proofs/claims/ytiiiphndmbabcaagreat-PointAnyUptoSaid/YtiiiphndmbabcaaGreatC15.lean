/- PointAny: whatever the input of bulk at most 1048576, the call returns true and leaves what was there as it was. The bound is the only condition. -/
import Derived.Test.YtiiiphndmbabcaaGreatRows
import Derived.Test.YtiiiphndmbabcaaGreatC11
import Derived.Test.YtiiiphndmbabcaaGreatC12
import Derived.Test.YtiiiphndmbabcaaGreatC10
import Derived.Test.YtiiiphndmbabcaaGreatC13
import Derived.Test.YtiiiphndmbabcaaGreatC14
import Derived.JoinedCond
set_option linter.all false
namespace Go.Proofs.YtiiiphndmbabcaaGreat
open Go.Proofs.Tryz
namespace sx
open Go Go.RowKit
def Quo:Ok zN:=QkB Qmn Mx Qmz
def Qup:Ok Qa0:=Qmd Quo (Qk5 (Qlb ri)) Mx (Qmp QcO)
end sx
set_option maxRecDepth 100000
namespace pointAny
open Go.ChangeShapes Go.WideShapes Go.ChangeAt Go.RowKit
def own:ownKnob Tryz.prog.godebug=none:=by kernel_rfl
theorem BH {H:Type} {d:DataW H} {l:List (DataW H)} (h:d∈l):Rows.uptoBulk d<=Rows.uptoBulkAll l:=by
 induction l with
 | nil=>cases h
 | cons x r a=>
  simp only[Rows.uptoBulkAll];cases Zbf.1 h with
  | inl e=>subst e;omega
  | inr e=>have:=a e;omega
def ME {H:Type} {a_:TypeId×Value->H} {W:World} {base:Nat} {t:TypeId} {fs:Array Field} {v:Value} {d:DataW H} {p:List MemPlace} (hu:Tryz.prog.underlying t=some (.struct fs)) (e:Value.okWide prog W .any base t v) (h:DataW.Trod a_ prog W 0 (λ_=>true) true t v d p)
  {Y:Type} {l:Y->List (sx.AV sx.D.E)} {Q:Y->Nat->Prop} (b:∀n cs x,sx.Pf a_ prog W true n t cs=some x->∃y,sx.LR (sx.mJ 1 W) (l y) cs/\Q y (Rows.uptoBulk x.1)):∃y,sx.VR (sx.mJ 1 W) (.agg (l y)) v/\Q y (Rows.uptoBulk d):=by
 obtain⟨cs,rfl,_⟩:=okWide_struct hu e;obtain⟨fuel,a⟩:=h;obtain⟨y,f,c⟩:=b _ _ _ a;exact⟨y,sx.VR.DB f,c⟩
theorem XB (H:Type) (a_:TypeId×Value->H) (W:World) (base:Nat) (args:Array Value) (g gs:List (DataW H)) (before:List MemPlace)
  (d:∀(j:Nat) t v,Tryz.f3.params[j]?=some t->args[j]?=some v->Value.okWide prog W .any base t v)
  (D:DataW.Whole a_ prog Tryz.f3.params.toList Rows.pointAnySpec.vars false W args.toList g gs before) (hk:Rows.uptoSmall H (g++gs)):
  Calls prog 3 args W λe x=>∃v,e=.returned v/\Rows.pointAnySpec.post a_ prog Tryz.f3 false true false false W args v x:=by
 have i:=D;obtain⟨p,q,f,L,_,_,_⟩:=i;have f:DataW.TrodAll a_ prog W 0 (λ_=>true) true Tryz.f3.params.toList args.toList g p:=f;have M:Tryz.f3.params=#[24,39]:=by kernel_rfl
 rw[M] at f d;obtain⟨u,R,A,G,p0,V,m,rfl,rfl,h0,N⟩:=trodAll_cons f;obtain⟨w,S,C,I,p1,q1,rfl,rfl,rfl,h1,O⟩:=trodAll_cons N;obtain⟨rfl,rfl,rfl⟩:=trodAll_nil O;obtain⟨rfl,rfl⟩:=trodVars_none L;obtain rfl:args=#[u,w]:=by cases args;simp_all
 have E:Rows.uptoBulkAll ([A,C]++[])<=1048576:=ZaH hk;have T:Rows.uptoBulk A<=1048576:=Zav (BH (by simp)) E;have b1:Rows.uptoBulk C<=1048576:=Zav (BH (by simp)) E;obtain⟨y,J,c0⟩:=ME (l:=λ(y:sx.cj)=>[.list 3 y.r,.str y.c]) (Q:=λy n=>sx.eO y.r+y.c.length<=21*n) (fs:=Tryz.prog.fieldsOf 24) (by kernel_rfl) (d 0 24 u rfl rfl) h0 λ_ _ _ h=>sx.Xh h
 obtain⟨z,K,c1⟩:=ME (l:=sx.O3) (Q:=λy n=>sx.C_ y<=n) (fs:=Tryz.prog.fieldsOf 39) (by kernel_rfl) (d 1 39 w rfl rfl) h1 λ_ _ _ h=>sx.Xe h
 refine sx.Qup.2 (y,z) ⟨by show sx.eO y.r+y.c.length<=22020096;omega,by show sx.C_ z<=1048576;omega⟩ (sx.mJ 1 W) #[u,w] W (.cons J (.cons K .nil)) (sx.Nk 1 W (Zaj _) trivial) (λ_ _=>rfl) _ λF P x s a=>?_
 have s:sx.VR F (.lit true) P:=s;cases s;refine⟨_,rfl,frame.XA (B:=4) D rfl rfl (by kernel_rfl) (by decide+kernel) rfl (by kernel_rfl) ⟨a.os,a.tape,a.output,a.size,λk hk=>a.aO k hk ?_⟩⟩;rintro⟨b,o,U,h,_⟩;cases h
set_option maxRecDepth 100000 in
theorem lifted (os:Os) (started:os.Started) (H:Type) (a_:TypeId×Value->H) (F:Stop.Interp):
  ReturnsInHanded {} Tryz.checked os 3 .any ((Rows.OpenSpec.upto Rows.pointAnySpec).pre6 a_ prog Tryz.f3 Rows.pointAnyUptoRow.domain false) (((Rows.OpenSpec.upto Rows.pointAnySpec).at F).post a_ prog Tryz.f3 false true false false):=by
 refine returnsInHanded_of_cond (C:=Tryz.checked) (s:=Rows.OpenSpec.upto Rows.pointAnySpec) (k:=Rows.uptoSmall) rfl own started (by kernel_rfl) (by kernel_rfl:Tryz.prog.funcs[3]?=some Tryz.f3)
  (OpenSpec.witness (enc:=a_) (C:=Tryz.checked) (s:=Rows.OpenSpec.upto Rows.pointAnySpec) (k:=Rows.uptoSmall) rfl false ⟨#[],#[.agg #[.slice none 0 0,.string ⟨#[]⟩],.agg #[.bool false,.int .i64 0,.int .i64 0,.int .i64 0,.int .u32 0,.int .i64 0,.int .i64 0,.bool false,.bool false,.int .i64 0,.int .i64 0,.slice none 0 0,.slice none 0 0,.int .i64 0,.slice none 0 0,.slice none 0 0,.int .i64 0,.slice none 0 0,.slice none 0 0,.int .i64 0,.slice none 0 0]],[]⟩ 8 (by kernel_rfl) (by kernel_rfl) (by kernel_rfl)
   (x:=([.agg [.nil,.lit (.string [])],.agg [.lit (.bool false),.agg [.lit (.int .i64 0),.lit (.int .i64 0),.agg [.lit (.int .i64 0),.lit (.int .u32 0)],.agg [.lit (.int .i64 0),.lit (.int .i64 0),.lit (.bool false),.lit (.bool false),.lit (.int .i64 0),.lit (.int .i64 0),.nil,.agg [.nil,.agg [.lit (.int .i64 0),.nil]],.agg [.nil,.agg [.lit (.int .i64 0),.nil]],.agg [.nil,.agg [.lit (.int .i64 0),.nil]]]]]],[],[])) (by kernel_rfl) rfl (by kernel_rfl)) ?_
 intro W base args b gs before a c _ hk _
 exact XB H a_ W base args b gs before a c hk
def proved:Rows.PointAnyUptoSaid:=
 OpenClaim.holds_of_cond 3 Tryz.f3 rfl rfl rfl rfl rfl rfl rfl ⟨rfl,rfl,rfl,rfl,rfl⟩ rfl rfl rfl rfl rfl name (by kernel_rfl:Tryz.prog.funcs[3]?=some Tryz.f3) facts
  (ZaH (by kernel_rfl)) (by unfold Func.isWrapper;first | (rw[Zac (by decide+kernel)];kernel_rfl) | (rw[Zaa (by decide+kernel)];exact⟨rfl,rfl⟩))
  (λos started H a_ _ F=>lifted os started H a_ F)
#print axioms proved
end pointAny
end Go.Proofs.YtiiiphndmbabcaaGreat
