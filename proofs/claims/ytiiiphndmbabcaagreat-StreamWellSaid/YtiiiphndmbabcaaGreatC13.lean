/- StreamWell: whatever the input, the call returns true and leaves what was there as it was. No conditions. -/
import Derived.Test.YtiiiphndmbabcaaGreatRows
import Derived.Test.YtiiiphndmbabcaaGreatC9
import Derived.Test.YtiiiphndmbabcaaGreatC10
import Derived.Test.YtiiiphndmbabcaaGreatC8
import Derived.Test.YtiiiphndmbabcaaGreatC11
import Derived.Test.YtiiiphndmbabcaaGreatC12
set_option linter.all false
namespace Go.Proofs.YtiiiphndmbabcaaGreat
open Go.Proofs.Tryz
namespace sx
open Go Go.RowKit
def QsQ:Ok xR:=QiL Qk0 Lx Qlc
def QsR:Ok Oh:=QsE QsQ (Qjg (Qjm s8)) Lx Qk2
end sx
namespace streamWell
open Go.ChangeShapes Go.WideShapes Go.ChangeAt Go.RowKit
def own:ownKnob Tryz.prog.godebug=none:=by kernel_rfl
def LB {H:Type} {P:Program} {ba:TypeId×Value->H} {W:World} {base:Nat} {t:TypeId} {fs:Array Field} {v:Value} {d:DataW H} {p:List MemPlace} (hu:P.underlying t=some (.struct fs)) (c:Value.okWide P W .any base t v) (h:DataW.Trod ba P W 0 (λ_=>true) true t v d p)
  {Y:Type} {l:Y->List (sx.AV sx.D.E)} (b:∀n cs x,sx.Oa ba P W true n t cs=some x->∃y,sx.LR (sx.mH 1 W) (l y) cs):∃y,sx.VR (sx.mH 1 W) (.agg (l y)) v:=by
 obtain⟨cs,rfl,_⟩:=okWide_struct hu c;obtain⟨fuel,a⟩:=h;obtain⟨y,e⟩:=b _ _ _ a;exact⟨y,sx.VR.CJ e⟩
set_option maxRecDepth 100000 in
theorem lifted (os:Os) (started:os.Started) (H:Type) (ba:TypeId×Value->H):
  ReturnsInHanded {} Tryz.checked os 5 .any (Rows.streamWellSpec.pre6 ba prog Tryz.f5 Rows.streamWellRow.domain false) (Rows.streamWellSpec.post ba prog Tryz.f5 false true false false):=by
 refine returnsInHanded_of_change (C:=Tryz.checked) own started (by kernel_rfl) (by kernel_rfl:Tryz.prog.funcs[5]?=some Tryz.f5)
  (ChangeSpec.witness6 (enc:=ba) (C:=Tryz.checked) false ⟨#[],#[.agg #[.slice none 0 0,.string ⟨#[]⟩],.agg #[.int .i64 0,.int .i64 0,.bool false,.bool false,.int .i64 0,.int .i64 0,.slice none 0 0,.slice none 0 0,.int .i64 0,.slice none 0 0,.slice none 0 0,.int .i64 0,.slice none 0 0,.slice none 0 0,.int .i64 0,.slice none 0 0]],[]⟩ 8 (by kernel_rfl) (by kernel_rfl) (by kernel_rfl) (by kernel_rfl)) ?_
 intro W base args ds gs before c l _ _
 have e:=l
 obtain⟨p,q,d,u,_,_,_⟩:=e
 have d:DataW.TrodAll ba prog W 0 (λ_=>true) true Tryz.f5.params.toList args.toList ds p:=d
 have v:Tryz.f5.params=#[24,35]:=by kernel_rfl
 rw[v] at d c
 obtain⟨i,D,G,n,p0,K,f,rfl,rfl,h0,w⟩:=trodAll_cons d
 obtain⟨j,E,I,r,p1,q1,rfl,rfl,rfl,h1,x⟩:=trodAll_cons w
 obtain⟨rfl,rfl,rfl⟩:=trodAll_nil x
 obtain⟨rfl,rfl⟩:=trodVars_none u
 obtain rfl:args=#[i,j]:=by cases args;simp_all
 obtain⟨y,s⟩:=LB (fs:=Tryz.prog.fieldsOf 24) (by kernel_rfl) (c 0 24 i rfl rfl) h0 λ_ _ _ h=>sx.Vu h
 obtain⟨z,t⟩:=LB (fs:=Tryz.prog.fieldsOf 35) (by kernel_rfl) (c 1 35 j rfl rfl) h1 λ_ _ _ h=>sx.NR h
 refine sx.QsR.2 (⟨y,z⟩,sx.g_ (sx.tE ⟨y,z⟩)) rfl (sx.mH 1 W) #[i,j] W (.cons s (.cons t .nil)) (sx.Md 1 W (Zaj _) trivial) (λ_ _=>rfl) _ λm A F g a=>?_
 have g:sx.VR m (.lit true) A:=g
 cases g
 refine⟨_,rfl,frame.V7 (B:=4) l rfl rfl (by kernel_rfl) (by decide+kernel) rfl (by kernel_rfl) ⟨a.os,a.tape,a.output,a.size,λk hk=>a.aR k hk ?_⟩⟩
 rintro⟨b,o,J,h,_⟩
 cases h
def proved:Rows.StreamWellSaid:=
 OpenClaim.holds_of_wide 5 Tryz.f5 rfl rfl rfl rfl rfl rfl rfl ⟨rfl,rfl,rfl,rfl,rfl⟩ rfl rfl rfl rfl rfl name (by kernel_rfl:Tryz.prog.funcs[5]?=some Tryz.f5) facts
  (ZaH (by kernel_rfl)) (by unfold Func.isWrapper;first | (rw[Zac (by decide+kernel)];kernel_rfl) | (rw[Zaa (by decide+kernel)];exact⟨rfl,rfl⟩))
  (λos started H ba _=>lifted os started H ba)
#print axioms proved
end streamWell
end Go.Proofs.YtiiiphndmbabcaaGreat
