/- StreamRises: a part of the proof. -/
import Derived.Test.YtadfknojfbmjgaaGreatC15
import Derived.Test.YtadfknojfbmjgaaGreatC31
import Derived.Test.YtadfknojfbmjgaaGreatProg
import Derived.Shelf.Spec.SlicesInsert
import Derived.Lib.AppendZerosOnto
import Derived.Laws.NewBlocks
import Derived.Test.YtadfknojfbmjgaaGreatC24
set_option linter.all false
namespace Go.Proofs.YtadfknojfbmjgaaGreat
set_option maxRecDepth 100000
set_option maxHeartbeats 4000000
namespace sx
noncomputable section
open Go Go.RowKit cls syn
variable {x:Nat} {b:By} {G:List Gt}
theorem Qmt:Ok QiR:=by
 refine⟨⟨Tryz.f200,_,by kernel_rfl,di (by kernel_rfl)⟩,λy o M A w f c _ R h=>?_⟩;obtain⟨v,rfl,k⟩:=xA f;cases k with
 | ptr d n=>
  obtain⟨_,hs,ht,C,m,g,hl,_⟩:=pb c (b:=0) (cs:=[.ptr 0 0,.own 1 1 (ab y)]) rfl d;obtain⟨p,q,rfl,h0,h1⟩:=KE hl;cases h0 with
  | ptr a j=>
   rw[d] at a;cases a;rw[hs];refine(bld.On _ w (by rw[Lib.cell_of_heap g,hs];rfl)).mono λe l ⟨i,hw⟩=>?_
   subst i hw;exact h M _ l (VR.Dg .nil) (.refl c 2)
theorem Qmu:Ok YV:=by
 refine⟨⟨Tryz.f200,_,by kernel_rfl,di (by kernel_rfl)⟩,λy D M A w p k _ R r=>?_⟩;obtain⟨v,rfl,u⟩:=xA p;cases u with
 | @ptr _ _ x f g=>
  obtain⟨_,hs,ht,C,m,c,hl,d⟩:=pb k (b:=0) (cs:=[.fD,.cF]) rfl f;obtain⟨E,F,rfl,h0,h1⟩:=KE hl;cases h0;cases h1;rw[hs];have a:=d rfl;refine(bld.Jz _ w (by rw[Lib.cell_of_heap c];rfl) (by simp[World.shape?,c]) (by
   simp only[World.frozen?,c];rcases a with h | h
   ·rw[h];simp;try omega
   ·have:=h.1;simp at this ⊢;try omega)).mono λe G ⟨s,hw⟩=>?_
  subst s hw;obtain⟨_,_,j⟩:=rP (o1:=.cells [.ptr 0 0,.cF] 281 false) (q:=0) (vs':=[bld.self x.bN]) (b:=0) k rfl rfl f g c (by grind) (by grind) ω (λ_=>trivial) (λl z H B=>⟨⟨g,hs,ht⟩,l,m,z,by grind,by grind,(λi v e=>by
   rw[hs,Za6,B]
   match i,e with
   | 0,e=>cases e;exact⟨_,rfl,by have:=VR.ptr (o:=0) f g;rw[hs] at this;exact this⟩
   | 1,e=>cases e;exact⟨_,rfl,.cF⟩
   | n+2,e=>cases e),λ_=>ω⟩) 1
  refine r M _ _ (VR.Dg .nil) ?_;have e:(λt=>ch (YV.h_ y) t)=iY (λt=>ch (YV.heap y) t) 0 (some (.cells [.ptr 0 0,.cF] 281 false)):=by
   funext t;show ch (Sg 0 (.ptr 0 0)) t=_
   unfold iY Sg;by_cases ht:t=0
   ·subst ht;rfl
   ·rw[Zaa ht,fj,Zaa (λh=>ht h.symm)];show ch [] t=ch (Sg 0 .fD) t
    grind [Sg,fj]
  rw[e];exact j
theorem LW {M:Pm D} {H:Hp D} {w:World} (i:ey M H w) {b:Nat} {o:AO D.E} {d:MI} (k:H b=some o) (hw:o.wr) (g:∀j,o.s6 d j) (l:M.pl b=some d) (p:d.real) (a:Addr) (G:a.block=d.bN) (n lo:Nat):
  cL H M w (λ_=>none) M (w.drew.freeze a n) lo lo:=by
 have f:∀W:World,(W.freeze a n).os=W.os/\(W.freeze a n).tape=W.tape/\(W.freeze a n).output=W.output/\(W.freeze a n).heap.size=W.heap.size/\∀c,c≠d.bN->(W.freeze a n).heap[c]?=W.heap[c]?:=λW=>by
  grind [World.freeze]
 obtain⟨s,t,u,x,y⟩:=f w.drew;have hk:∀c,c≠d.bN->(w.drew.freeze a n).heap[c]?=w.heap[c]?:=y;refine⟨⟨λb o h=>(nomatch h),λb F o J m I h=>(nomatch h),λc q v h=>?_,λb o m h=>(nomatch h),λb c xs e m h=>(nomatch h),⟨⟨by rw[x];exact i.ml.1.1,D.gst _ _ (λc z=>hk c ?_) i.ml.1.2⟩,λb o m h=>(nomatch h)⟩⟩,λ_ _=>rfl,λ_ _ _ h=>h,λ_ _ h=>.inl h,by simp_all,λc z A=>hk c ?_,λb o m h=>(nomatch h),λb h=>absurd rfl h,s,t,u,Zah _⟩
 ·obtain⟨B,C,r,e2⟩:=i.gE c q v h;refine⟨B,C,?_,e2⟩;rw[<-r];exact kG (hk c λe=>by
   have:=i.sep b o d k hw l p q (g q);rw[<-e,h] at this;cases this)
 ·have:=i.ml.2 b o d k hw l p;omega
 ·exact λe=>A ⟨b,o,d,k,hw,l,p,e.symm⟩
theorem Qmv:Ok QiS:=by
 refine⟨⟨Tryz.f192,_,by kernel_rfl,di (by kernel_rfl)⟩,λy n M A w f a _ R h=>?_⟩;obtain⟨v,rfl,l⟩:=xA f;cases l with
 | @ptr _ _ m c k=>
  obtain⟨_,hs,ht,C,d,g,hl,j⟩:=pb a (b:=0) (cs:=[.fD,.cF]) rfl c;obtain⟨o,p,rfl,h0,h1⟩:=KE hl;cases h0;cases h1;rw[hs];refine(bld.Quf _ _ d w g).mono λe q ⟨i,hw⟩=>?_
  subst i hw;have:=LW a (b:=0) rfl rfl (λ_=>trivial) c k ⟨m.bN,0,none⟩ rfl 0 1;exact h M (.string ⟨⟨[]⟩⟩) _ (.str (Zaj _)) this
theorem Qmw:Ok QiT:=by
 refine⟨⟨Tryz.f192,_,by kernel_rfl,di (by kernel_rfl)⟩,λy n M A w q h _ R r=>?_⟩;obtain⟨v,rfl,E⟩:=xA q;cases E with
 | @ptr _ _ I B H=>
  obtain⟨_,hs,ht,C,p,m,hl,t⟩:=pb h (b:=0) (cs:=[.ptr 0 0,.own 1 1 (ab y)]) rfl B;obtain⟨J,K,rfl,h0,h1⟩:=KE hl;obtain⟨a,d,c,f,i⟩:=h.obj 1 (.arr 0 y 5 false) rfl;have z:ab y=(y.length:Int):=aj y;cases h1 with
  | own g1 g2 g3 g4 g5 g6 g7=>
   rw[d] at g1;cases g1;obtain⟨o,g,k1,k2,k3,k4,k5⟩:=i g3;replace c:a.len=y.length:=c;replace f:a.je=1:=f;rw[c] at m g5 g6;rw[hs];have k:=aS jU 0 y;rw[show D.size 0=1 from rfl,Zb8] at k;have G:a.sh+y.length<=a.qE:=by grind
   refine(bld.Que _ _ _ _ _ y o p g w n m k1 ω g6 g5 (λj x F=>?_)).mono λe N ⟨s,hw⟩=>?_
   ·obtain⟨u,rfl⟩:=Zam.1 F;have e:=fK jU 0 y j 0 u (by decide);obtain⟨L,l,a2⟩:=k4 (j*D.size 0+0) _ e;obtain rfl:=qW a2;have:(⟨a.bN,a.sh,none⟩:Addr).add j=⟨a.bN,a.sh+j,none⟩:=by
     grind [Addr.add]
    rw[this,Lib.cell_of_heap k1];have e2:a.sh+(j*D.size 0+0)=a.sh+j:=by show a.sh+(j*1+0)=_;omega
    rw[e2] at l;exact l
   ·subst s hw;have:=LW h (b:=1) rfl rfl (λ_=>trivial) d g3 ⟨a.bN,a.sh,none⟩ rfl y.length 2;exact r M (.string ⟨⟨y⟩⟩) _ (.str g5) this
  | l5 g1 g2 g3 g4 g5=>exact absurd (Zap ω) n
theorem Qmx:Ok YW:=okZ (V:=Qdn) [YV] Tryz.f191 (λ_=>⟨[],[2],[],[],1,[]⟩) Qmu λy a=>by
 unfold Qdn;simp only[db,Zal,aj];exact⟨aU.2 (by grind),rfl,rfl,trivial⟩
theorem Qmy:Ok YX:=okZ (V:=Qdo) [QiR] Tryz.f191 (λ_=>cX ()) Qmt λy a=>by
 unfold Qdo;simp only[dq,aj,aO];obtain⟨h1,b⟩:y.1.length<=1000000/\G9 y.2:=a;refine⟨aU.2 ?_,rfl,rfl⟩;grind
def Qmz:Ok YY:=okZ (V:=Qms) [] Tryz.f190 (λ_=>cX ()) trivial λy a=>⟨rfl,trivial⟩
theorem QmA:Ok YZ:=okZ (V:=Qdp) [] Tryz.f190 (λ_=>cX ()) trivial λy a=>by
 grind [Qdp]
theorem JA {i:Nat} (h:¬(i<G.length/\48<=aD G i/\aD G i<=57)):b6 G x i b=(i,b):=by
 rcases x with _ | x
 ·rfl
 ·grind [b6]
theorem WD (h:x<G.length/\48<=aD G x/\aD G x<=57):b6 G (G.length-x) x b=b6 G (G.length-(x+1)) (x+1) (if 48<aD G x\/b≠[] then b++[UInt8.ofNat (aD G x).toNat] else b):=by
 obtain⟨m,a⟩:∃m,G.length-x=m+1:=⟨G.length-x-1,ω⟩;grind [b6]
def nh {y:PS} (a:bj y) (l:tw y x b) (h:¬(x<y.1.length/\48<=aD y.1 x/\aD y.1 x<=57)):
  b=gI y.1 (nn y.2)/\ax y.2.i x=gv y.1 (nn y.2)/\(x:Int)=((b6 y.1 (y.1.length-y.2.i.toNat) y.2.i.toNat []).1:Nat)/\y.2.opens=(y.2.opens.toNat:Nat)/\y.2.ae=(y.2.ae.toNat:Nat):=by
 have e:=l.2.2.2;rw[JA h] at e;obtain⟨c,a2,a3,a4,_⟩:=a;refine⟨?_,?_,?_,ω,ω⟩
 ·show b=(b6 y.1 (y.1.length-(nn y.2).i) (nn y.2).i []).2
  rw[<-e]
 ·show _=decide ((nn y.2).i<(b6 y.1 (y.1.length-(nn y.2).i) (nn y.2).i []).1)
  rw[<-e];apply ZaG.2;rw[gf,ZbP];show y.2.i<x↔y.2.i.toNat<x
  omega
 ·show(x:Int)=((b6 y.1 (y.1.length-(nn y.2).i) (nn y.2).i []).1:Nat)
  rw[<-e]
theorem WE {y:PS} (a:bj y) (l:tw y x b) (h:x<y.1.length/\48<=aD y.1 x/\aD y.1 x<=57):
  an .i64 (x:Int) 1=((x+1:Nat):Int)/\wc .u8 (aD y.1 x)=aD y.1 x/\G9 (aD y.1 x)/\tw y (x+1) (if 48<aD y.1 x\/b≠[] then b++[UInt8.ofNat (aD y.1 x).toNat] else b)/\y.1.length-(x+1)<y.1.length-x:=by
 obtain⟨e,f,g,c⟩:=l;have d:=a.1;refine⟨aV ω ω,dF (cB.2 ⟨by show(0:Int)<=_;omega,by show _<=(255:Int);omega⟩),⟨ω,ω⟩,⟨ω,ω,?_,by rw[<-c,WD h]⟩,ω⟩;grind
theorem Qug:∀y,xH.pre y->WC y:=λy j=>by
 unfold WC;simp only[QaU,dq,aj,dA,Zad,ZaX,ZaY,ZaZ,Zdt,Zdv,Zd2];obtain⟨b,-⟩:=j;replace b:bj y:=b;obtain⟨k,a2,-⟩:=id b;simp only[show ∀x:Nat,(y.1.getD x (0,0)).1=aD y.1 x from λ_=>rfl];refine⟨⟨(nn y.2).i,by show y.2.i=(y.2.i.toNat:Int);omega,Zah _,by show y.2.i.toNat<=_;omega,Zaj _,rfl⟩,λx a=>?_,λx a=>?_⟩
 ·refine⟨λh1=>⟨ω,h1,λd=>⟨ω,h1,λe=>⟨ω,h1,?_⟩,λe=>nh b a λh=>?_⟩,λd=>nh b a λh=>?_⟩,λh1=>nh b a λh=>?_⟩
  ·obtain⟨g1,g2,g3,g4,g5⟩:=WE b a ⟨ω,d,e⟩;rw[g2];refine⟨λf=>⟨ω,h1,g3,⟨(x+1,[UInt8.ofNat (aD y.1 x).toNat]),rfl,rfl,g1,⟨?_,by simp⟩,g5⟩⟩,λf=>⟨λh=>absurd h (by decide),λ_=>⟨x+1,g1,?_,g5⟩⟩⟩
   ·grind
   ·grind
  all_goals omega
 ·obtain⟨i,l⟩:=x;obtain⟨a,hl⟩:=a;refine⟨λh1=>⟨ω,h1,λd=>⟨ω,h1,λe=>⟨ω,h1,?_⟩,λe=>⟨hl,nh b a λh=>?_⟩⟩,λd=>⟨hl,nh b a λh=>?_⟩⟩,λh1=>⟨hl,nh b a λh=>?_⟩⟩
  ·obtain⟨g1,g2,g3,g4,g5⟩:=WE b a ⟨ω,d,e⟩;simp only at g2 hl ⊢;rw[g2];rw[Zac (.inr hl)] at g4;have o:l.length<=1000000:=by have m:l.length<=i:=a.2.2.1;have n:i<=y.1.length:=a.2.1;omega
   have g:∃c:Nat×By,((l++[UInt8.ofNat (aD y.1 i).toNat]).length:Int)=(c.2.length:Int)/\l++[UInt8.ofNat (aD y.1 i).toNat]=c.2/\an .i64 (i:Int) 1=(c.1:Int)/\(tw y c.1 c.2/\c.2≠[])/\y.1.length-c.1<y.1.length-i:=
    ⟨(i+1,_),rfl,rfl,g1,⟨g4,by simp⟩,g5⟩
   grind [List.length_pos_iff]
  all_goals omega
def QmB:Ok xH:=okZ [YY,YZ,YW,YX,QiS,QiT] Tryz.f167 QpA ⟨Qmz,QmA,Qmx,Qmy,Qmv,Qmw⟩ Qug
end
end sx
namespace ins
open Go Go.RowKit Go.Lib
abbrev R:TypeId:=181
abbrev S:TypeId:=175
section
variable {P:Program}
theorem oe (w:World) (l p ty elem:TypeId) (k b o c e:Nat) (a:Addr) (d g:Nat) (cs:List Value)
  (hu:P.underlying l=some (.slice elem)) (hs:(P.info? elem).map (·.size)=some k) (n:cs.length=Nat.min d c*k)
  (f:∀j v,cs[j]?=some v->w.cell? (a.add j)=some v) (q:∀j,j<cs.length->(w.cell? ⟨b,o+j,none⟩).isSome) (r:∀j,j<cs.length->w.frozen? ⟨b,o+j,none⟩=false) (h1:∀v∈cs,v.oneCell'):
  (Builtin.copy_ #[l,p] ty #[.slice (some ⟨b,o,none⟩) c e,.slice (some a) d g]).run P w=.ok (goInt (Nat.min d c)) (w.setCells b o cs):=by
 have hl:=run_loadCells_list (P:=P) w a cs f;have h:=run_storeCells_cells (P:=P) b o cs 0 w (by assumption) (by assumption) h1;cases m:P.info? elem with
 | none=>simp[m] at hs
 | some i=>
  have hi:i.size=k:=by grind
  simp[Builtin.copy_,Zza hu,Builtin.lenOf,Builtin.firstCells,sizeOf,typeInfo,m,hi,<-n,hl,h]
end
def LX:(Tryz.prog.info? R).map (·.size)=some 2:=by kernel_rfl
set_option maxHeartbeats 4000000 in
set_option maxRecDepth 100000 in
theorem shift (b off n c i d a vc:Nat) (cs q:List Value) (w:World) (hi:i<n) (J:n+1<=c) (U:n<=1000000) (z:d≠b)
  (hcl:cs.length=n*2) (hvl:q.length=2)
  (E:∀j v,cs[j]?=some v->w.cell? ⟨b,off+j,none⟩=some v) (p:∀j,j<(n+1)*2->(w.cell? ⟨b,off+j,none⟩).isSome=true) (u:∀j,j<(n+1)*2->w.frozen? ⟨b,off+j,none⟩=false)
  (M:∀j v,q[j]?=some v->w.cell? ⟨d,a+j,none⟩=some v) (B:∀v∈cs,v.oneCell'=true) (C:∀v∈q,v.oneCell'=true)
  (V X:TypeId) (N O:Nat) (K:w.shape? d=some (V,N)) (L:w.shape? b=some (X,O)) (H:O≠0) (F:w.frozen? ⟨d,a,none⟩=false) (G:w.frozen? ⟨d,N,none⟩=false):
  Calls Tryz.prog 73 #[.slice (some ⟨b,off,none⟩) n c,.int .i64 i,.slice (some ⟨d,a,none⟩) 1 vc] w λe w'=>
   e=.returned (.slice (some ⟨b,off,none⟩) (n+1) c)/\w'=(w.drew.setCells b (off+(i+1)*2) (cs.drop (i*2))).setCells b (off+i*2) q:=by
 have hz2:¬((i:Int)=(n:Int)):=ω
 have I:∀o Q A,(callFunc 105 #[.slice (some ⟨d,a,none⟩) 1 vc,.slice (some ⟨b,o,none⟩) Q A]).run Tryz.prog w=.ok (.value (.bool false)) w:=λo Q A=>by
  rw[run_callFunc_extern Tryz.func105 (by kernel_rfl) (by kernel_rfl) (by kernel_rfl) (e:=Extern.SlicesOverlaps.overlaps #[S,S] #[4]) (by kernel_rfl),
   Lib.run_overlaps_apart w S 4 R Tryz.underlying175 2 Tryz.sizeOf181 ⟨d,a,none⟩ ⟨b,o,none⟩ 1 vc Q A z V X N O K L H F G]
  rfl
 have hdl:(cs.drop (i*2)).length=(n-i)*2:=by grind
 have mixed:Tryz.prog.follows .mixedOrders=true:=by kernel_rfl
 have hw1:IntKind.i64.wrap ((i:Int)+1)=(i:Int)+1:=by rw[IntKind.wrap_i64];omega
 have lK:(0:Int)<=(i:Int)+1:=ω
 have hin:i<=n:=ω
 have htn:((i:Int)+1).toNat=i+1:=ω
 have Y:¬(c=i+1):=ω
 have Z:(i:Int)<=(n:Int)+1:=ω
 have hb4:¬(c=i):=ω
 have g:∀ty l T,(Builtin.copy_ #[S,S] ty #[.slice (some ⟨b,off+(i+1)*2,none⟩) (n-i) l,.slice (some ⟨b,off+i*2,none⟩) (n+1-i) T]).run Tryz.prog w.drew=.ok (goInt ((n-i:Nat):Int)) (w.drew.setCells b (off+(i+1)*2) (cs.drop (i*2))):=λty l T=>by
  have hm:Nat.min (n+1-i) (n-i)=n-i:=by grind
  have:=oe (P:=Tryz.prog) w.drew S S ty R 2 b (off+(i+1)*2) (n-i) l ⟨b,off+i*2,none⟩ (n+1-i) T (cs.drop (i*2)) Tryz.underlying175 LX ω
   (λj v m=>by rw[Addr.add_lit,Za4];exact E (i*2+j) v (by grind))
   (λj m=>by rw[Za4];exact p _ ω) (λj m=>by rw[Za4];exact u _ ω) (λv hv=>B v (Zc5 hv))
  grind
 obtain⟨r,f⟩:∃r,r=w.drew.setCells b (off+(i+1)*2) (cs.drop (i*2)):=⟨_,rfl⟩
 have y:∀k,k<(n+1)*2->(r.cell? ⟨b,off+k,none⟩).isSome=true:=λk hk=>by
  rw[f]
  exact isSome_setCells b _ _ _ (λj m=>by rw[Za4];exact p _ ω) _ (p k hk)
 have t:∀(W:World),(∀x,W.cell? x=r.cell? x)->(∀x,W.frozen? x=r.frozen? x)->∀ty l,(Builtin.copy_ #[S,S] ty #[.slice (some ⟨b,off+i*2,none⟩) (n+1-i) l,.slice (some ⟨d,a,none⟩) 1 vc]).run Tryz.prog W=.ok (goInt 1) (W.setCells b (off+i*2) q):=λW s D ty l=>by
  have hm:Nat.min 1 (n+1-i)=1:=by grind
  have:=oe (P:=Tryz.prog) W S S ty R 2 b (off+i*2) (n+1-i) l ⟨d,a,none⟩ 1 vc q Tryz.underlying175 LX ω
   (λj v m=>by
    rw[Addr.add_lit,s,f,World.cell?_setCells_out b _ _ _ _ (λh _=>absurd h z)]
    exact M j v m)
   (λj m=>by rw[s,Za4];exact y _ ω) (λj m=>by rw[D,f,World.frozen?_setCells,Za4];exact u _ ω) C
  grind
 rw[<-f] at g
 go_enter Tryz.func73,Tryz.ntmps73
 go_wp2_with (simp only[I])
 go_region_law_o (refine step_copy_runI rfl _ _ S S rfl _ _ (by simp[Act.eval,Act.put]) (by simp[Act.eval,Act.put]) (g _ _ _) ?_)
 go_wp2_with (at_builtin;refine wpList_copy_runI _ rfl _ _ S S rfl _ _ rfl rfl (t _ (λ_=>rfl) (λ_=>rfl) _ _) ?_)
 go_ret
 simp_all
abbrev zR:Value:=.agg #[.string ⟨#[]⟩,.int .i64 0]
def QmC:(Tryz.prog.info? R).map (λi=>(i.zero,i.size,i.bytes))=some (some zR,2,24):=by kernel_rfl
abbrev Oo (w:World) (n c i:Nat) (cs:List Value):Array Value:=(cs.take (i*2)).toArray++Builtin.zeroCells zR.cells (n+1-i)++Builtin.zeroCells zR.cells (grownCap w (n+1) c R-(n+1))
theorem Oq (n:Nat):(Builtin.zeroCells zR.cells n).size=n*2:=by
 simp[Builtin.zeroCells,Value.cells]
theorem A' {w:World} {n c i:Nat} {cs:List Value} (hi:i<=n) (a:cs.length=n*2):(Oo w n c i cs).size=grownCap w (n+1) c R*2:=by
 grind [grownCap_ge,Oq]
set_option maxHeartbeats 4000000 in
set_option maxRecDepth 100000 in
theorem grow (b off n c i q d vc:Nat) (cs g:List Value) (w:World) (hi:i<n) (hnc:n<=c) (t:c<n+1) (hbig:n<=1000000)
  (hcl:cs.length=n*2) (hvl:g.length=2)
  (s:∀j v,cs[j]?=some v->w.cell? ⟨b,off+j,none⟩=some v)
  (Q:∀j v,g[j]?=some v->w.cell? ⟨q,d+j,none⟩=some v) (A:∀v∈cs,v.oneCell'=true) (B:∀v∈g,v.oneCell'=true):
  Calls Tryz.prog 73 #[.slice (some ⟨b,off,none⟩) n c,.int .i64 i,.slice (some ⟨q,d,none⟩) 1 vc] w λe w'=>
   e=.returned (.slice (some ⟨w.heap.size,0,none⟩) (n+1) (grownCap w (n+1) c R))/\
   w'=(((w.alloc (.cells (Oo w n c i cs) R)).drew.setCells w.heap.size (i*2) g).drew).setCells w.heap.size ((i+1)*2) (cs.drop (i*2)):=by
 have mixed:Tryz.prog.follows .mixedOrders=true:=by kernel_rfl
 obtain⟨i0,N,U,X,V⟩:=info_parts QmC
 have hz2:¬((i:Int)=(n:Int)):=ω
 have hz3:(c:Int)<(n:Int)+1:=ω
 have M:b<w.heap.size:=block_lt_of_cell (s 0 _ (Zaf ω))
 have T:q<w.heap.size:=block_lt_of_cell (Q 0 _ (Zaf ω))
 have O:(n:Int)+1-(i:Int)=((n+1-i:Nat):Int):=ω
 have z:i+(n+1-i)=n+1:=ω
 have hold:(Builtin.firstCells i0.size i (.slice (some ⟨b,off,none⟩) i c)).run Tryz.prog w.drew=.ok (cs.take (i*2)).toArray w.drew:=by
  rw[X]
  exact run_firstCells_some w.drew 2 i ⟨b,off,none⟩ i c (cs.take (i*2)) (by grind) (λj v k=>by
   rw[Addr.add_lit]
   rw[Za7] at k
   split at k
   ·exact s j v k
   ·cases k)
 have m:∀ty,(Builtin.append_ #[S,3] ty #[.slice (some ⟨b,off,none⟩) i c,.int .i64 ((n:Int)+1-(i:Int))]).run Tryz.prog w=
   .ok (.slice (some ⟨w.heap.size,0,none⟩) (n+1) (grownCap w (n+1) c R)) (w.drew.alloc (.cells (Oo w n c i cs) R)):=λty=>by
  have h:=Lib.run_append_grow_zeros w S 3 ty R i0 _ .i64 .i64 Tryz.underlying175 Tryz.underlying3 N U (some ⟨b,off,none⟩) i c (cs.take (i*2)) hold (n+1-i) ω ω ω ω (by grind) (by rw[V,z];exact growslice_fits t ω)
  grind
 obtain⟨G,Z⟩:∃G,G=grownCap w (n+1) c R:=⟨_,rfl⟩
 obtain⟨a,o⟩:∃a:Array Value,a=Oo w n c i cs:=⟨_,rfl⟩
 have hGn:n+1<=G:=by grind [grownCap_ge]
 have J:a.size=G*2:=by grind [A']
 have I:(n+1)*2<=a.size:=ω
 rw[<-Z] at m ⊢
 rw[<-o] at m ⊢
 obtain⟨l,f⟩:∃l,l=w.drew.alloc (.cells a R):=⟨_,rfl⟩
 rw[<-f] at m
 have hN:∀j,j<(n+1)*2->(l.cell? ⟨w.heap.size,j,none⟩).isSome=true:=λj k=>by
  rw[f,World.cell?_alloc_at (w:=w.drew) a _ w.heap.size j rfl,Za5 ω];rfl
 have hNf:∀j,l.frozen? ⟨w.heap.size,j,none⟩=false:=λj=>by rw[f];exact World.frozen?_alloc_at (w:=w.drew) a _ w.heap.size j rfl
 have H:∀j v,w.cell? ⟨b,j,none⟩=some v->l.cell? ⟨b,j,none⟩=some v:=λj v h=>by rw[f,World.cell?_alloc_past (w:=w.drew) _ b j M];exact h
 have hOv:∀j v,w.cell? ⟨q,j,none⟩=some v->l.cell? ⟨q,j,none⟩=some v:=λj v h=>by rw[f,World.cell?_alloc_past (w:=w.drew) _ q j T];exact h
 have y:∀(W:World),(∀x,W.cell? x=l.cell? x)->(∀x,W.frozen? x=l.frozen? x)->∀ty r,(Builtin.copy_ #[S,S] ty #[.slice (some ⟨w.heap.size,i*2,none⟩) (n+1-i) r,.slice (some ⟨q,d,none⟩) 1 vc]).run Tryz.prog W=.ok (goInt 1) (W.setCells w.heap.size (i*2) g):=λW u K ty r=>by
  have hm:Nat.min 1 (n+1-i)=1:=by grind
  have:=oe (P:=Tryz.prog) W S S ty R 2 w.heap.size (i*2) (n+1-i) r ⟨q,d,none⟩ 1 vc g Tryz.underlying175 LX ω
   (λj v k=>by grind [Addr.add_lit])
   (λj k=>by grind) (λj k=>by grind) B
  grind
 have hG63:G<=9223372036854775807:=by
  grind [grownCap_le_maxLen,maxLen]
 have hGi:¬(G=i):=ω
 have hGim:¬(G=i+1):=ω
 have hci:¬(c=i):=ω
 have L:b≠w.heap.size:=ω
 have hdl:(cs.drop (i*2)).length=(n-i)*2:=by grind
 have p:∀(W:World),(∀x,W.cell? x=(l.setCells w.heap.size (i*2) g).cell? x)->(∀x,W.frozen? x=(l.setCells w.heap.size (i*2) g).frozen? x)->∀ty r Y,(Builtin.copy_ #[S,S] ty #[.slice (some ⟨w.heap.size,(i+1)*2,none⟩) (n-i) r,.slice (some ⟨b,off+i*2,none⟩) (n-i) Y]).run Tryz.prog W=.ok (goInt ((n-i:Nat):Int)) (W.setCells w.heap.size ((i+1)*2) (cs.drop (i*2))):=λW u K ty r Y=>by
  have hm:Nat.min (n-i) (n-i)=n-i:=by grind
  have:=oe (P:=Tryz.prog) W S S ty R 2 w.heap.size ((i+1)*2) (n-i) r ⟨b,off+i*2,none⟩ (n-i) Y (cs.drop (i*2)) Tryz.underlying175 LX ω
   (λj v k=>by
    rw[Addr.add_lit,u,World.cell?_setCells_out _ _ _ _ _ (λh _=>absurd h L),Za4]
    exact H _ v (s (i*2+j) v (by grind)))
   (λj k=>by grind [isSome_setCells])
   (λj k=>by grind [World.frozen?_setCells]) (λv hv=>A v (Zc5 hv))
  grind
 subst f
 have C:∀x,((w.alloc (.cells a R)).drew).cell? x=(w.drew.alloc (.cells a R)).cell? x:=λx=>rfl
 have D:∀x,((w.alloc (.cells a R)).drew).frozen? x=(w.drew.alloc (.cells a R)).frozen? x:=λx=>rfl
 have E:∀x,(((w.alloc (.cells a R)).drew.setCells w.heap.size (i*2) g).drew).cell? x=((w.drew.alloc (.cells a R)).setCells w.heap.size (i*2) g).cell? x:=λx=>rfl
 have F:∀x,(((w.alloc (.cells a R)).drew.setCells w.heap.size (i*2) g).drew).frozen? x=((w.drew.alloc (.cells a R)).setCells w.heap.size (i*2) g).frozen? x:=λx=>rfl
 have hw1:IntKind.i64.wrap ((i:Int)+1)=(i:Int)+1:=by rw[IntKind.wrap_i64];omega
 have lK:(0:Int)<=(i:Int)+1:=ω
 have hin:i<=n:=ω
 have htn:((i:Int)+1).toNat=i+1:=ω
 have hb3:(i:Int)<=(n:Int):=ω
 clear O z hold o Z I J
 go_enter Tryz.func73,Tryz.ntmps73
 go_wp2_with (first
  | (at_builtin;refine Lib.wpList_append_run _ rfl _ _ _ _ rfl _ _ rfl rfl _ _ (m _) ?_)
  | (at_builtin;refine wpList_copy_runI _ rfl _ _ S S rfl _ _ rfl rfl (y _ C D _ _) ?_)
  | (at_builtin;refine wpList_copy_runI _ rfl _ _ S S rfl _ _ rfl rfl (p _ (λ_=>rfl) (λ_=>rfl) _ _ _) ?_))
 go_region_law_o (refine step_copy_runI rfl _ _ S S rfl (.slice (some ⟨w.heap.size,(i+1)*2,none⟩) (n-i) (G-(i+1))) (.slice (some ⟨b,off+i*2,none⟩) (n-i) (c-i)) (by simp[Act.eval,Act.put]) (by simp[Act.eval,Act.put]) (p _ E F 3 (G-(i+1)) (c-i)) ?_)
 go_wp2
 go_ret
 simp_all
end ins
set_option maxRecDepth 100000
set_option maxHeartbeats 4000000
namespace sx
noncomputable section
open Go Go.RowKit cls syn
abbrev Qgg:=List Row×Nat×Row
variable {M:Pm D} {l:List Row} {i:Nat} {Z b:List Value}
def rwO (n:Nat) (l:List Row):Nat×AO D.E:=(n,.arr 16 l 181 false)
def Qdq (a:List (AV D.E)) (s:St D.E):C Qgg:=match a with
 | [l,i,r]=>av (rowsOf D s 16 l) λl=>aI (cT i) λ_ i=>av (rowsOf D s 16 r) λr=>.ret (l,i.toNat,(r:List Row).getD 0 IG)
 | _=>.fail
def lv (l:List Row) (i:Nat) (r:Row):List Row:=l.take i++r::l.drop i
def yx:bf D:=⟨73,Qgg,Qdq,λy=>y.2.1<=y.1.length/\y.1.length<=1000,λy=>[.own 0 2 (ab y.1),Qu9 y.2.1,.own 1 2 1],λy=>[rwO 0 y.1,rwO 1 [y.2.2]],
 λy=>.own 2 2 (ab (lv y.1 y.2.1 y.2.2)),λy=>[rwO 2 (lv y.1 y.2.1 y.2.2)],2,3⟩
def Qgi:bf D:=⟨73,Qgg,Qdq,λy=>y.2.1=y.1.length/\y.1.length<=1000,λy=>[.own 0 2 (ab y.1),Qu9 (ab y.1),.own 1 2 1],λy=>[rwO 0 y.1,rwO 1 [y.2.2]],
 λy=>.own 2 2 (ab (y.1++[y.2.2])),λy=>[rwO 2 (y.1++[y.2.2])],2,3⟩
def Qdr (y:(List Row)×Nat×Row):Prop:=let a:=ab y.1;let b:=([y.2.2]:List Row);let c:=ab (aZ y.1 b);aC 0 a/\aC a a/\ag (az 1 0) (a=ab (y.1++b)/\y.1=(y.1++b)/\True) (ag (az a a) (fits c 24/\c=ab (y.1++b)/\aZ y.1 b=(y.1++b)/\True) (False))
def Qds (y:W3):Prop:=let b:=ab y.l;let e:=jP y.l y.k;let c:=rj y.l y.k y.v;let d:=((lF y.l y.k:Nat):Int);let a:=d.toNat;let f:=([Row.mk y.k y.v]:List Row);let g:=List.getD f 0 IG;Iv (TbP (W3.mk y.l y.k 0))/\aa [y.k] (aa [b] (aa [y.l] (ag e (aC 0 d/\ax d b/\false=(!e)/\b=ab c/\cA y.l a (Row.mk (gt (Row.mk [] 0) y.l a).k y.v)=c/\True) (Iv (a<=y.l.length/\y.l.length<=1000)/\aa [b] (d=(a:Int)/\ab f=1/\f=([g]:List Row)/\aa [y.l] (true=(!e)/\ab (lv y.l a g)=ab c/\lv y.l a g=c/\True))))))
theorem QmD {a b c:AV D.E} {A:Array Value} (h:LR M [a,b,c] A.toList):∃v u t,A=#[v,u,t]/\VR M a v/\VR M b u/\VR M c t:=by
 obtain⟨l⟩:=A;obtain⟨v,r,e,h1,d⟩:=h.bX;obtain⟨u,m,e2,j,f⟩:=d.bX;obtain⟨t,n,i,k,g⟩:=f.bX;have:=g.oq;grind
theorem QmE:Ok Qgi:=okZ (V:=Qdr) [] Tryz.f73 (λ_=>⟨[],[7],[],[],1,[]⟩) trivial λy a=>by
 unfold Qdr;simp only[QaU,dq,aj,aU,aO];have h:y.1.length<=1000:=a.2
 skip
 grind
theorem JB (c:Nat) (xs:List (D.E c)) (n:Nat):aM c (xs.drop n)=(aM c xs).drop (n*D.size c):=by
 by_cases h:n<=xs.length
 ·have e:aM c xs=aM c (xs.take n)++aM c (xs.drop n):=by rw[<-fL,ZaO]
  grind [aS,jU]
 ·rw[Zbu ω,Zbu (by rw[aS jU];exact Zbc _ ω)];rfl
noncomputable def vj (l:List Row):List (AV D.E):=aM (D:=D) 16 l
def FW (a b:List Row):vj (a++b)=vj a++vj b:=fL (D:=D) 16 a b
def Ot (l:List Row) (i:Nat):vj (l.take i)=(vj l).take (i*2):=ny (D:=D) jU 16 l i
def Ou (l:List Row) (i:Nat):vj (l.drop i)=(vj l).drop (i*2):=JB 16 l i
def FX (l:List Row):(vj l).length=l.length*2:=aS (D:=D) jU 16 l
def Qgj {r:Row} (a:LR M (vj l) Z) (c:LR M (vj [r]) b):LR M (vj (lv l i r)) (Z.take (i*2)++(b++Z.drop (i*2))):=by
 have e:lv l i r=l.take i++([r]++l.drop i):=rfl;rw[e,FW,FW,Ot,Ou];exact(a.take _).app (c.app (a.drop _))
theorem FY {n:Nat} {C:Nat->Option Value} (a:Z.length=n*2) (hi:i<=n) (c:b.length=2) (p1:∀q,q<i*2->C q=Z[q]?) (p2:∀j,j<2->C (i*2+j)=b[j]?)
  (p3:∀j,j<(n-i)*2->C ((i+1)*2+j)=(Z.drop (i*2))[j]?) {q:Nat} {u:Value} (h:(Z.take (i*2)++(b++Z.drop (i*2)))[q]?=some u):C q=some u:=by
 have ht:(Z.take (i*2)).length=i*2:=by rw[Zar];omega
 by_cases h1:q<i*2
 ·grind
 ·rw[Zaz ω,ht] at h;grind
theorem WG {H:Hp D} {w:World} (g:ey M H w) {b:Nat} {n:Int} {v:Value} (i:H b=some (.arr 16 l 181 false)) (p:n=l.length) (q:0<l.length) (m:VR M (.own b 2 n) v):
  ∃a cap C c cs,M.pl b=some a/\a.real/\a.len=l.length/\a.je=2/\v=.slice (some ⟨a.bN,a.sh,none⟩) l.length cap/\l.length<=cap/\a.sh+cap*2=a.qE/\
   w.heap[a.bN]?=some (.cells C 181 c)/\C.size=a.qE/\c.1=c.2/\LR M (vj l) cs/\cs.length=l.length*2/\∀j v,cs[j]?=some v->w.cell? ⟨a.bN,a.sh+j,none⟩=some v:=by
 obtain⟨a,e,hl,hz,k⟩:=g.obj b _ i;replace hl:a.len=l.length:=hl;replace hz:a.je=2:=hz;cases m with
 | own g1 g2 g3 g4 g5 g6 g7=>
  rename_i cap o
  rw[e] at g1;cases g1;have d:=k g3;obtain⟨cs,h1,f⟩:=d.rd.list;obtain⟨C,c,k1,k2,k3,k4,k5⟩:=d;refine⟨a,cap,C,c,cs,e,g3,hl,hz,by rw[hl],ω,by rw[hz] at g7;exact g7,k1,k2,(k5 rfl).elim id λh=>ω,h1,?_,f⟩;rw[<-h1.1];exact FX l
 | l5 g1 g2 g3 g4 g5=>omega
theorem QmF:Ok yx:=by
 refine⟨⟨Tryz.f73,_,by kernel_rfl,di (by kernel_rfl)⟩,λy hy M A w hA J hT R hR=>?_⟩;obtain⟨hi,hl⟩:=hy;by_cases K:y.2.1=y.1.length
 ·have e:lv y.1 y.2.1 y.2.2=y.1++[y.2.2]:=by unfold lv;rw[K,ZaM,ZbH]
  have O:LR M [.own 0 2 (ab y.1),.int .i64 y.2.1,.own 1 2 1] A.toList:=hA;rw[K] at O;refine QmE.2 y ⟨K,hl⟩ M A w (by show LR M [.own 0 2 (ab y.1),.int .i64 (ab y.1),.own 1 2 1] _;rw[aj y.1] at O ⊢;exact O) J hT R λM' v' w' hv k=>hR M' v' w' ?_ ?_
  ·show VR M' (.own 2 2 (ab (lv y.1 y.2.1 y.2.2))) v'
   rw[e];exact hv
  ·show cL _ M w (λt=>ch [rwO 2 (lv y.1 y.2.1 y.2.2)] t) M' w' 2 3
   rw[e];exact k
 ·obtain⟨v0,v1,v2,rfl,hv0,hv1,hv2⟩:=QmD hA;obtain rfl:=qW hv1;have s:y.2.1<y.1.length:=Nat.lt_of_le_of_ne hi K;obtain⟨m0,cap,C,fz,cs,B,H,hl0,hz0,rfl,X,htot,hC,hCs,hfz,Y,g,p⟩:=WG J (b:=0) rfl (aj y.1) ω hv0;obtain⟨m1,I,C1,fz1,d,hm1,hr1,hl1,hz1,rfl,hcap1,QuR,V,Qwh,hfz1,hvs,m,f⟩:=WG J (b:=1) (l:=[y.2.2]) rfl rfl (by simp) hv2;have hne:m1.bN≠m0.bN:=λe=>absurd (J.inj 1 0 _ _ m1 m0 rfl rfl hm1 B hr1 H e) (by decide)
  have T:∀v∈cs,v.oneCell':=s5 Y (dV.2 λv hv=>(dX jU hv).1);have U:∀v∈d,v.oneCell':=s5 hvs (dV.2 λv hv=>(dX jU hv).1);generalize hi2:y.2.1=i at*
  generalize P:y.1=l at*
  generalize hr2:y.2.2=r at*
  replace m:d.length=2:=m;have W:=Qgj (i:=i) Y hvs;have F:(lv l i r).length=l.length+1:=by unfold lv;rw[Zab,Zae,Zar,Zbg];omega
  have hnr:(aM (D:=D) 16 (lv l i r)).length=(l.length+1)*2:=by rw[<-F];exact FX _
  have hdl:(cs.drop (i*2)).length=(l.length-i)*2:=by rw[Zbg,g];omega
  have L:∀{M':Pm D} {w':World} {mi:MI} {cap:Nat},M'.pl 2=some mi->mi.real->mi.je=2->mi.len=l.length+1->l.length+1<=cap->mi.sh+cap*2=mi.qE->
    cL (λt=>ch (yx.heap y) t) M w (λc=>if c=2 then some (.arr 16 (lv l i r) 181 false) else if c=0 then none else ch (yx.heap y) c) M' w' 2 3->
    R (.returned (.slice (some ⟨mi.bN,mi.sh,none⟩) (l.length+1) cap)) w':=λ{M' w' mi cap} S a2 a3 a4 a5 a6 k=>by
   refine hR M' _ w' ?_ ?_
   ·show VR M' (.own 2 2 (ab (lv y.1 y.2.1 y.2.2))) _
    rw[P,hi2,hr2,<-a4];exact VR.own S a3 a2 (by rw[a4,aj,F]) ω ω (by rw[a3];exact a6)
   ·have:=k.trans (cL.drop (b:=1) k.gn 3);have e:(λt=>ch (yx.h_ y) t)=iY (λc=>if c=2 then some (.arr 16 (lv l i r) 181 false) else if c=0 then none else ch (yx.heap y) c) 1 none:=by
     funext t;show ch [(2,AO.arr (E:=D.E) 16 (lv y.1 y.2.1 y.2.2) _ false)] t=if t=1 then none else if t=2 then _ else if t=0 then none else ch [(0,_),(1,_)] t
     rw[P,hi2,hr2,fj,fj,fj];by_cases h1:t=1
     ·subst h1;rfl
     ·by_cases h2:t=2
      ·grind
      ·by_cases h3:t=0
       ·subst h3;rfl
       ·grind
    rw[e];exact this
  have hmx:l.length+1<=9223372036854775807:=ω;by_cases z:l.length+1<=cap
  ·have Quj:∀j,w.frozen? ⟨m0.bN,j,none⟩=false:=λj=>by simp only[World.frozen?,hC,hfz];simp
   have N:∀j,w.frozen? ⟨m1.bN,j,none⟩=false:=λj=>by simp only[World.frozen?,V,hfz1];simp
   refine(ins.shift m0.bN m0.sh l.length cap i m1.bN m1.sh I cs d w s z ω hne g m p (λj hj=>?_) (λj _=>Quj _) f T U ins.R ins.R C1.size C.size (by simp[World.shape?,V]) (by simp[World.shape?,hC]) ω (N _) (N _)).mono λe w' ⟨K,hw⟩=>?_
   ·grind [World.cell?]
   ·subst K hw;obtain⟨C2,c1,c2,c3⟩:=fy m0.bN _ fz (cs.drop (i*2)) (m0.sh+(i+1)*2) w.drew C hC ω;obtain⟨n,d1,d2,Q⟩:=fy m0.bN _ fz d (m0.sh+i*2) _ C2 c1 ω;obtain⟨e1,e2,e3⟩:=dM m0.bN (cs.drop (i*2)) (m0.sh+(i+1)*2) w.drew;obtain⟨f1,f2,f3⟩:=dM m0.bN d (m0.sh+i*2) (w.drew.setCells m0.bN (m0.sh+(i+1)*2) (cs.drop (i*2)));have Z:M.pl 2=none:=hT 2 (Zah 2)
    let mi:MI:=⟨m0.bN,m0.sh,m0.qE,m0.je,l.length+1,true⟩
    have hle:sx.Le M (M.add 2 mi):=Pm.qK Z;have hC0:∀q u,cs[q]?=some u->C[m0.sh+q]?=some u:=λq u h=>by
     grind [World.cell?]
    have x:∀q u,(cs.take (i*2)++(d++cs.drop (i*2)))[q]?=some u->n[m0.sh+q]?=some u:=λq u h=>by
     refine FY (C:=λq=>n[m0.sh+q]?) g (Zcx s) m (λq hq=>?_) (λj hj=>?_) (λj hj=>?_) h
     ·grind
     ·show n[m0.sh+(i*2+j)]?=_
      rw[Q,Zac ω,show m0.sh+(i*2+j) -(m0.sh+i*2)=j by omega]
     ·show n[m0.sh+((i+1)*2+j)]?=_
      rw[Q,Zaa ω,c3,Zac ω,show m0.sh+((i+1)*2+j) -(m0.sh+(i+1)*2)=j by omega]
    have k:=cL.upon (M1:=M.add 2 mi) (sg1:=M.sg) (b0:=0) (b1:=2) (o1:=.arr 16 (lv l i r) 181 false) (rA:=m0) (BC:=mi) (lo:=2) (hi:=3) (w':=(w.drew.setCells m0.bN (m0.sh+(i+1)*2) (cs.drop (i*2))).setCells m0.bN (m0.sh+i*2) d) J (show ch (yx.heap y) 0=some (.arr 16 l 181 false) by rw[<-P];rfl) rfl B H rfl rfl rfl (.inr ⟨rfl,Z,rfl⟩) (λ_ _ _ h=>h) (λ_ _ h=>.inl h)
     ((dL _ _ _ _).trans (dL _ _ _ _)) (λc hc=>(dn _ _ _ _ c hc).trans (dn _ _ _ _ c hc)) (f1.trans e1) (f2.trans e2) (f3.trans e3)
     ⟨F.symm,hz0,λ_=>⟨n,fz,d1,by rw[d2,c2,hCs],by rw[hnr];show m0.sh+_<=m0.qE;omega,λq u hu=>?_,λ_=>.inl hfz⟩⟩ (λo v h=>?_) (λ_ j _=>?_)
    ·exact L (M':=M.add 2 mi) (mi:=mi) rfl rfl hz0 rfl z htot k
    ·obtain⟨u',S,a2⟩:=W.get hu;exact⟨u',x q u' S,a2.mono hle⟩
    ·rw[J.sep 0 _ m0 (show ch (yx.heap y) 0=_ from rfl) rfl B H o trivial] at h;cases h
    ·exact J.sep 0 _ m0 (show ch (yx.heap y) 0=_ from rfl) rfl B H j trivial
  ·have hN:(ins.Oo w l.length cap i cs).size=grownCap w (l.length+1) cap ins.R*2:=ins.A' (Zcx s) g;have hG:=grownCap_ge w (l.length+1) cap ins.R;refine(ins.grow m0.bN m0.sh l.length cap i m1.bN m1.sh I cs d w s X ω ω g m p f T U).mono λe w' ⟨K,hw⟩=>?_
   subst K;generalize hGG:grownCap w (l.length+1) cap ins.R=G at*
   generalize hRR:ins.Oo w l.length cap i cs=a at*
   have hg:(w.alloc (.cells a ins.R)).drew.heap[w.heap.size]?=some (.cells a ins.R (0,0)):=by show(w.heap.push _)[w.heap.size]?=_;simp
   obtain⟨C2,c1,c2,c3⟩:=fy w.heap.size _ (0,0) d (i*2) _ a hg ω;obtain⟨n,d1,d2,Q⟩:=fy w.heap.size _ (0,0) (cs.drop (i*2)) ((i+1)*2) ((w.alloc (.cells a ins.R)).drew.setCells w.heap.size (i*2) d).drew C2 c1 ω;obtain⟨e1,e2,e3⟩:=dM w.heap.size d (i*2) (w.alloc (.cells a ins.R)).drew;obtain⟨f1,f2,f3⟩:=dM w.heap.size (cs.drop (i*2)) ((i+1)*2) ((w.alloc (.cells a ins.R)).drew.setCells w.heap.size (i*2) d).drew;have s1:=dL w.heap.size d (i*2) (w.alloc (.cells a ins.R)).drew;have s2:=dL w.heap.size (cs.drop (i*2)) ((i+1)*2) ((w.alloc (.cells a ins.R)).drew.setCells w.heap.size (i*2) d).drew;have b1:=dn w.heap.size d (i*2) (w.alloc (.cells a ins.R)).drew;have b2:=dn w.heap.size (cs.drop (i*2)) ((i+1)*2) ((w.alloc (.cells a ins.R)).drew.setCells w.heap.size (i*2) d).drew;rw[<-hw] at d1 f1 f2 f3 s2 b2;have cI:w'.heap.size=w.heap.size+1:=s2.trans (s1.trans (by show(w.heap.push _).size=_;simp));have hblk:∀c,c<w.heap.size->w'.heap[c]?=w.heap[c]?:=λc hc=>(b2 c ω).trans ((b1 c ω).trans (Below.heap_alloc _ _ _ hc))
   have Z:M.pl 2=none:=hT 2 (Zah 2)
   let mi:MI:=⟨w.heap.size,0,a.size,2,l.length+1,true⟩
   have hle:sx.Le M (M.add 2 mi):=Pm.qK Z;have x:∀q u,(cs.take (i*2)++(d++cs.drop (i*2)))[q]?=some u->n[0+q]?=some u:=λq u h=>by
    rw[Za6];refine FY (C:=λq=>n[q]?) g (Zcx s) m (λq hq=>?_) (λj hj=>?_) (λj hj=>?_) h
    ·show n[q]?=_
     rw[Q,Zaa ω,c3,Zaa ω,<-hRR];have ht:(cs.take (i*2)).length=i*2:=by rw[Zar];omega
     show((cs.take (i*2)).toArray++_++_)[q]?=_
     rw[ZbT (by rw[Zct,Zb5];omega),ZbT (by rw[Zb5];omega),Zc0,Za7,Zac hq]
    ·show n[i*2+j]?=_
     rw[Q,Zaa ω,c3,Zac ω,show i*2+j-i*2=j by omega]
    ·show n[(i+1)*2+j]?=_
     rw[Q,Zac ω,show(i+1)*2+j-(i+1)*2=j by omega]
   have st1:=cL.nt (lo:=2) J Z (.arr 16 (lv l i r) 181 false) mi (λ_=>rfl) ω hblk (f1.trans e1) (f2.trans e2) (f3.trans e3)
    ⟨F.symm,rfl,λ_=>⟨n,(0,0),d1,by rw[d2,c2],by rw[hnr];show 0+_<=a.size;omega,λq u hu=>let ⟨u',S,a2⟩:=W.get hu;⟨u',x q u' S,a2.mono hle⟩,λ_=>.inl rfl⟩⟩ (λ_ _ _ h=>by cases h)
   have st2:=st1.trans (cL.drop (b:=0) st1.gn 3);have e:(λc=>if c=2 then some (AO.arr (E:=D.E) 16 (lv l i r) 181 false) else if c=0 then none else ch (yx.heap y) c)=iY (iY (λt=>ch (yx.heap y) t) 2 (some (.arr 16 (lv l i r) 181 false))) 0 none:=by
    funext t;grind [iY]
   exact L (M':=M.add 2 mi) (mi:=mi) rfl rfl rfl rfl hG (by show 0+G*2=a.size;omega) (by rw[e];exact st2)
theorem Qa9 {k:By} (h:jP l k):lF l k<l.length:=by
 obtain⟨r,a,e⟩:=ZcT.1 h;refine List.findIdx_lt_length_of_exists ⟨r,a,?_⟩;grind
theorem QmG:Ok IH:=okZ (V:=Qds) [NT,yx] Tryz.f40 (λ_=>⟨[],[5],[],[],1,[]⟩) ⟨Qkm,QmF⟩ λy a=>by
 unfold Qds;simp only[QaU,dq,aj,aU,aO,cA,dA,Zad];have b:lF y.l y.k<=y.l.length:=ZdL;refine⟨a,λh=>?_,λh=>?_⟩
 ·grind [rj,Qa9]
 ·have e:lv y.l (lF y.l y.k) ([(⟨y.k,y.v⟩:Row)].getD 0 IG)=rj y.l y.k y.v:=by unfold rj lv;rw[h,Zaa (by decide)];rfl
  exact⟨⟨b,a.2⟩,rfl,rfl,(by rw[h];rfl),ZaR (λl:List Row=>(l.length:Int)) e,e⟩
end
end sx
end Go.Proofs.YtadfknojfbmjgaaGreat
