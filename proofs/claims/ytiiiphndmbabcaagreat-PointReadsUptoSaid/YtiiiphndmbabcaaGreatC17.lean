/- PointReads: whatever the input of bulk at most 1048576, the call returns true and leaves what was there as it was. The bound is the only condition. -/
import Derived.Test.YtiiiphndmbabcaaGreatRows
import Derived.Test.YtiiiphndmbabcaaGreatC12
import Derived.Test.YtiiiphndmbabcaaGreatC13
import Derived.Test.YtiiiphndmbabcaaGreatC14
import Derived.Test.YtiiiphndmbabcaaGreatC11
import Derived.Test.YtiiiphndmbabcaaGreatC15
import Derived.Test.YtiiiphndmbabcaaGreatC16
import Derived.JoinedCond
set_option linter.all false
namespace Go.Proofs.YtiiiphndmbabcaaGreat
open Go.Proofs.Tryz
namespace sx
open Go Go.RowKit
def Quo:Ok zN:=QkB Qmn Mx Qmz
def Qxn:Ok QkE:=QvD Quo (Qk5 (Qlb ri)) Mx (Qmp QcO)
end sx
set_option maxRecDepth 100000
namespace pointReads
open Go.ChangeShapes Go.WideShapes Go.ChangeAt Go.RowKit
variable {Z:Type} {p:List MemPlace}
variable {d:DataW Z} {Y:TypeId×Value->Z}
def own:ownKnob Tryz.prog.godebug=none:=by kernel_rfl
theorem BH {l:List (DataW Z)} (h:d∈l):Rows.uptoBulk d<=Rows.uptoBulkAll l:=by
 induction l with
 | nil=>cases h
 | cons x r a=>
  simp only[Rows.uptoBulkAll];cases Zbf.1 h with
  | inl e=>subst e;omega
  | inr e=>have:=a e;omega
def ME {W:World} {base:Nat} {t:TypeId} {fs:Array Field} {v:Value} (hu:Tryz.prog.underlying t=some (.struct fs)) (e:Value.okWide prog W .any base t v) (h:DataW.Trod Y prog W 0 (λ_=>true) true t v d p)
  {a_:Type} {l:a_->List (sx.AV sx.D.E)} {Q:a_->Nat->Prop} (b:∀n cs x,sx.Pf Y prog W true n t cs=some x->∃y,sx.LR (sx.lV W) (l y) cs/\Q y (Rows.uptoBulk x.1)):∃y,sx.VR (sx.lV W) (.agg (l y)) v/\Q y (Rows.uptoBulk d):=by
 obtain⟨cs,rfl,_⟩:=okWide_struct hu e;obtain⟨fuel,a⟩:=h;obtain⟨y,f,c⟩:=b _ _ _ a;exact⟨y,sx.VR.DB f,c⟩
def arg_str {W:World} {base:Nat} {v:Value} (c:Value.okWide prog W .any base 9 v) (h:DataW.Trod Y prog W 0 (λ_=>true) true 9 v d p):∃b:sx.By,sx.VR (sx.lV W) (.str b) v:=by
 have hu:Tryz.prog.underlying 9=some .string:=by kernel_rfl
 obtain⟨s,rfl⟩:=okWide_string hu c;obtain⟨fuel,a⟩:=h;have h0:=sx.pe 8 9 [.str] _ _ _ (by kernel_rfl) a;obtain⟨v,r,w0,g,e,⟨f,rfl,hs,_⟩,_,_⟩:=h0.aM;obtain rfl:s=f:=by simp[Value.cells] at e;exact e.1
 exact⟨_,.str (sx.BB hs)⟩
theorem XB (H:Type) (a_:TypeId×Value->H) (W:World) (base:Nat) (args:Array Value) (g gs:List (DataW H)) (before:List MemPlace)
  (d:∀(j:Nat) t v,Tryz.f4.params[j]?=some t->args[j]?=some v->Value.okWide prog W .any base t v)
  (D:DataW.Whole a_ prog Tryz.f4.params.toList Rows.pointReadsSpec.vars false W args.toList g gs before) (hk:Rows.uptoSmall H (g++gs)):
  Calls prog 4 args W λe x=>∃v,e=.returned v/\Rows.pointReadsSpec.post a_ prog Tryz.f4 false true false false W args v x:=by
 have i:=D;obtain⟨p,q,f,L,_,_,_⟩:=i;have f:DataW.TrodAll a_ prog W 0 (λ_=>true) true Tryz.f4.params.toList args.toList g p:=f;have M:Tryz.f4.params=#[24,9]:=by kernel_rfl
 rw[M] at f d;obtain⟨u,R,A,G,p0,V,m,rfl,rfl,h0,N⟩:=trodAll_cons f;obtain⟨w,S,C,I,p1,q1,rfl,rfl,rfl,h1,O⟩:=trodAll_cons N;obtain⟨rfl,rfl,rfl⟩:=trodAll_nil O;obtain⟨rfl,rfl⟩:=trodVars_none L;obtain rfl:args=#[u,w]:=by cases args;simp_all
 have E:Rows.uptoBulkAll ([A,C]++[])<=1048576:=ZaH hk;have T:Rows.uptoBulk A<=1048576:=Zav (BH (by simp)) E;have b1:Rows.uptoBulk C<=1048576:=Zav (BH (by simp)) E;obtain⟨y,J,c0⟩:=ME (l:=λ(y:sx.cj)=>[.list 3 y.r,.str y.c]) (Q:=λy n=>sx.eO y.r+y.c.length<=21*n) (fs:=Tryz.prog.fieldsOf 24) (by kernel_rfl) (d 0 24 u rfl rfl) h0 λ_ _ _ h=>sx.Xh (λ_ _ _ h=>h) h
 obtain⟨z,K⟩:=arg_str (d 1 9 w rfl rfl) h1;refine sx.Qxn.2 (y,z) (by show sx.eO y.r+y.c.length<=22020096;omega) (sx.lV W) #[u,w] W (.cons J (.cons K .nil)) (sx.Nk W (Zaj _) trivial) (λ_ _=>rfl) _ λF P x s a=>?_
 have s:sx.VR F (.lit true) P:=s;cases s;refine⟨_,rfl,frame.XA (B:=4) D rfl rfl (by kernel_rfl) (by decide+kernel) rfl (by kernel_rfl) ⟨a.os,a.tape,a.output,a.size,λk hk=>a.aO k hk ?_⟩⟩;rintro⟨b,o,U,h,_⟩;cases h
set_option maxRecDepth 100000 in
theorem lifted (os:Os) (started:os.Started) (H:Type) (a_:TypeId×Value->H) (F:Stop.Interp):
  ReturnsInHanded {} Tryz.checked os 4 .any ((Rows.OpenSpec.upto Rows.pointReadsSpec).pre6 a_ prog Tryz.f4 Rows.pointReadsUptoRow.domain false) (((Rows.OpenSpec.upto Rows.pointReadsSpec).at F).post a_ prog Tryz.f4 false true false false):=by
 refine returnsInHanded_of_cond (C:=Tryz.checked) (s:=Rows.OpenSpec.upto Rows.pointReadsSpec) (k:=Rows.uptoSmall) rfl own started (by kernel_rfl) (by kernel_rfl:Tryz.prog.funcs[4]?=some Tryz.f4)
  (OpenSpec.witness (enc:=a_) (C:=Tryz.checked) (s:=Rows.OpenSpec.upto Rows.pointReadsSpec) (k:=Rows.uptoSmall) rfl false ⟨#[],#[.agg #[.slice none 0 0,.string ⟨#[]⟩],.string ⟨#[]⟩],[]⟩ 8 (by kernel_rfl) (by kernel_rfl) (by kernel_rfl)
   (x:=([.agg [.nil,.lit (.string [])],.lit (.string [])],[],[])) (by kernel_rfl) rfl (by kernel_rfl)) ?_
 intro W base args b gs before a c _ hk _
 exact XB H a_ W base args b gs before a c hk
def proved:Rows.PointReadsUptoSaid:=
 OpenClaim.holds_of_cond 4 Tryz.f4 rfl rfl rfl rfl rfl rfl rfl ⟨rfl,rfl,rfl,rfl,rfl⟩ rfl rfl rfl rfl rfl name (by kernel_rfl:Tryz.prog.funcs[4]?=some Tryz.f4) facts
  (ZaH (by kernel_rfl)) (by unfold Func.isWrapper;first | (rw[Zac (by decide+kernel)];kernel_rfl) | (rw[Zaa (by decide+kernel)];exact⟨rfl,rfl⟩))
  (λos started H a_ _ F=>lifted os started H a_ F)
#print axioms proved
end pointReads
end Go.Proofs.YtiiiphndmbabcaaGreat
