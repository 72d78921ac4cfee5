/- StreamRises: a part of the proof. -/
import Derived.Test.YtadfknojfbmjgaaGreatC6
import Derived.Orders
set_option linter.all false
namespace Go.Proofs.YtadfknojfbmjgaaGreat
namespace sx
open Go Go.RowKit
section
variable {P:Program} {D:Data} {cd:TypeId->Option Nat} {mu:Bool} {ex:yM D.E} {ops:Array Oper} {N:Nat} {ms:List Nat} {φ0:T (AV D.E)} {s:St D.E} {d:Ds D} {M0:Pm D} {w0:World}
theorem cL.PR {H d:Hp D} {M e:Pm D} {w g:World} {lo hi c a:Nat} (h:cL H M w d e g lo hi) (h1:c<=lo\/lo=hi) (k:hi<=a\/lo=hi) (i:c<=a):cL H M w d e g c a:=
 ⟨h.gn,λb f=>h.ext b ω,h.J3,h.lJ,h.size,h.aH,h.born,λb f=>by
  rcases h.Me b f with j | j
  ·grind
  ·exact .inr ω,h.os,h.tape,h.output,i⟩
theorem cL.QdP {H n f:Hp D} {M p g:Pm D} {w r i:World} {lo hi:Nat} (h:cL H M w n p r lo hi) (k:cL n p r f g i lo hi):cL H M w f g i lo hi:=by
 refine⟨k.gn,λb a=>by rw[k.ext b a,h.ext b a],λb o v e=>k.J3 _ _ _ (h.J3 _ _ _ e),λb o a=>?_,Zav h.size k.size,λc q y=>?_,λb o C a u z=>?_,λb a=>?_,k.os.trans h.os,k.tape.trans h.tape,k.output.trans h.output,h.le⟩
 ·rcases k.lJ b o a with d | d | d
  ·exact h.lJ b o d
  ·exact .inr (.inl (Zav h.size d))
  ·exact .inr (h.wrt d)
 ·rw[k.aH c (ZbB q h.size) λhw=>?_,h.aH c q y];rcases h.wrt hw with d | d
  ·omega
  ·grind
 ·rcases k.born b o C a u z with hs | ⟨b1,o1,m,lK,j,l,t,B⟩
  ·exact .inl (Zav h.size hs)
  ·rcases h.born b1 o1 m lK j l with hs | ⟨F,I,E,s,x,A,G,hw⟩
   ·omega
   ·grind
 ·rcases k.Me b a with lK | lK
  ·exact h.Me b lK
  ·omega
noncomputable def SG (d:Ds D) (ms:List Nat) (E:Nat->Bool) (k:Nat):Hp D:=λb=>match (d.hs.getD k .nil).get b with
 | some o=>some o
 | none=>uN (λj=>E j&&bU ms (fO d.es k) j) d.rs 0 b
structure Inv (ops:Array Oper) (N:Nat) (ms:List Nat) (φ0:T (AV D.E)) (s:St D.E) (d:Ds D) (M0:Pm D) (w0:World) (E:Nat->Bool) (a:Act) (w:World) (k:Nat) (M:Pm D):Prop where
 kle:k<=d.es.length
 ek:∀(l e:Nat),d.es[l]?=some e->(E e=true↔l<k)
 OI:cL s.h.get M0 w0 (SG d ms E k) M w s.nx d.nx
 fresh:∀(i:Nat) (r:Rc D),d.rs[i]?=some r->E i=false->bR M r.lo r.hi
 fr1:∀(i:Nat) (o:Oper) (r:Rc D) (t:Tmp),ops.toList[i]?=some o->d.rs[i]?=some r->o.dst=some t->E i=true->VR M r.v (a.tmps.getD t Go.undef)
 fr2:∀t:Tmp,(∀(i:Nat) (o:Oper),ops.toList[i]?=some o->E i=true->o.dst≠some t)->∀v,φ0.get t=some v->VR M v (a.tmps.getD t Go.undef)
 size:a.tmps.size=N
 defers:a.defers=[]
 i1:∀(j:Nat) (r:Rc D),E j=true->d.rs[j]?=some r->piece D r=true->bU ms (fO d.es k) j=true->(d.hs.getD k .nil).get r.lo=none
 down:∀i j,j4 ms i j=true->E j=true->E i=true
variable {k j:Nat} {E:Nat->Bool}
theorem GJ {ms:List Nat} {es:List Nat}:bU ms (fO es k) j↔(k=0\/j4 ms j (es.getD (k-1) 0)=false):=by
 cases k with
 | zero=>exact⟨λ_=>.inl rfl,λ_=>rfl⟩
 | succ k=>
  show Bool.not (j4 ms j (es.getD k 0))↔_
  simp
theorem iF (a:ia d.rs) {o:AO D.E}:SG d ms E k j=some o↔(d.hs.getD k .nil).get j=some o\/((d.hs.getD k .nil).get j=none/\∃(b:Nat) (r:Rc D),d.rs[b]?=some r/\piece D r/\E b/\bU ms (fO d.es k) b/\r.lo=j/\r.pc.get j=some o):=by
 unfold SG;grind [jD]
def ins (E:Nat->Bool) (i:Nat):Nat->Bool:=λj=>decide (j=i)||E j
theorem rZ (E:Nat->Bool) (i:Nat):ins E i i:=by simp[ins]
theorem kM (h:j≠k):ins E k j=E j:=by simp[ins,h]
def BM (h:E j):ins E k j:=by simp[ins,h]
theorem Dz {h:T (AO D.E)} (e:d.hs[k]?=some h):d.hs.getD k .nil=h:=by grind
structure Nx (ops:Array Oper) (ms:List Nat) (E:Nat->Bool) (i:Nat) (o:Oper) (r:Rc D) (d:Ds D):Prop where
 o:ops.toList[i]?=some o
 r:d.rs[i]?=some r
 no:E i=false
 pre:∀j,j4 ms j i=true->E j=true
variable {E:Nat->Bool} {i k:Nat} {o:Oper} {Z:Rc D} {a:Act} {w:World} {M:Pm D}
theorem Nx.eff (n:Nx ops ms E i o Z d) (h:Inv ops N ms φ0 s d M0 w0 E a w k M):bU ms (fO d.es k) i:=by
 rw[GJ];cases k with
 | zero=>exact .inl rfl
 | succ k=>
  right;cases b:j4 ms i (d.es.getD k 0) with
  | false=>simpa using b
  | true=>
   have hk:k<d.es.length:=by have:=h.kle;omega
   have c:=Zaf hk;have e2:d.es.getD k 0=d.es[k]:=by grind
   have e:=(h.ek k d.es[k] c).2 ω;rw[e2] at b;have:=h.down i _ b e;rw[n.no] at this;cases this
theorem Inv.frame (Q:oW P D cd mu ex ops.toList N ms φ0 s ops.toList.length d) (A:wQ P ops.toList ms) (h:Inv ops N ms φ0 s d M0 w0 E a w k M) (n:Nx ops ms E i o Z d):
  ∃a2:Act,FR M Z.φ a2 N/\execOp a2.eval o=execOp a.eval o/\Region.wanted o (yielded ops a2.tmps)=Region.wanted o (yielded ops a.tmps):=by
 have rc:=Q.rc i o Z n.o n.r;obtain⟨φ,⟨p1,p2⟩,p3⟩:=rc.fr;have W:∀t,Reads ops.toList o t->∀v,Z.φ.get t=some v->VR M v (a.tmps.getD t Go.undef):=by
  intro t ht v z;rw[(p3 t).1 ht] at z;by_cases hex:∃(j:Nat) (l:Oper),ops.toList[j]?=some l/\l.dst=some t/\j<i
  ·obtain⟨j,l,h1,F,r⟩:=hex;have J:j<d.rs.length:=by rw[Q.len];exact(Zam.1 h1).1
   have T:=Zaf J;rw[p1 j d.rs[j] l t (by grind) h1 F] at z;cases z;rcases A.rd i j o l t n.o h1 ω F ht with y | y
   ·have:=A.tonD.lt y;omega
   ·exact h.fr1 j l d.rs[j] t h1 T F (n.pre j y)
  ·rw[p2 t (λj q l O m e=>hex ⟨j,l,m,e,by
    rw[Za7] at O;split at O
    ·assumption
    ·cases O⟩)] at z
   refine h.fr2 t (λj l m H e=>?_) v z;by_cases I:j=i
   ·subst I;rw[n.no] at H;cases H
   ·have C:¬j<i:=λC=>hex ⟨j,l,m,e,C⟩
    rcases A.rd i j o l t n.o m ω e ht with y | y
    ·have:=h.down i j y H;rw[n.no] at this;cases this
    ·have:=A.tonD.lt y;omega
 let u:Array Value:=(Array.range N).map λt=>if reads ops.toList o t then a.tmps.getD t Go.undef else Go.undef
 have X:∀t,u.getD t Go.undef=if t<N/\reads ops.toList o t=true then a.tmps.getD t Go.undef else Go.undef:=by
  intro t;rw[ZaT];grind
 have R:∀t,¬t<N->a.tmps.getD t Go.undef=Go.undef:=λt ht=>by
  rw[ZaT,Zcq (by rw[h.size];exact ZdA (by assumption))];rfl
 have c:∀t,Reads ops.toList o t->u.getD t Go.undef=a.tmps.getD t Go.undef:=λt ht=>by
  grind [zY]
 have G:FR M Z.φ { tmps:=u,defers:=[] } N:=by
  refine⟨λt v z=>?_,by grind,rfl⟩;grind
 have L:∀x∈o.op.operands,(Act.eval { tmps:=u,defers:=[] } x)=a.eval x:=by
  intro x hx;cases x with
  | tmp t=>exact c t (by unfold Reads pG;rw[pH];exact ZaU _ (ZcL.2 ⟨.tmp t,by grind,rfl⟩))
  | const v=>rfl
  | global g=>rfl
  | func f=>rfl
 refine⟨{ tmps:=u,defers:=[] },G,execOp_congr o (A.yS i o n.o) L,?_⟩;unfold Region.wanted;cases U:o.guard with
 | none=>rfl
 | some p=>
  obtain⟨g,b⟩:=p;simp only;congr 1;unfold yielded;cases K:ops[g]? with
  | none=>rfl
  | some Y=>
   rw[ZcE];cases B:Y.dst with
   | none=>rfl
   | some t=>
    rw[ZcE,ZcE];have ht:Reads ops.toList o t:=by
     unfold Reads pG Bq;rw[U];refine Zbf.2 (.inl ?_);show some t=oB (gH ops.toList g) λx=>x.dst
     rw[fe,ZaL,K];exact B.symm
    have e:=c t ht;by_cases V:t<N
    ·have S:u[t]?=some (u.getD t Go.undef):=by
      grind
     have e2:a.tmps[t]?=some (a.tmps.getD t Go.undef):=by
      rw[ZaT,Za5 (by rw[h.size];exact V)];rfl
     grind
    ·have S:u[t]?=none:=Zcq (by grind);have e2:a.tmps[t]?=none:=Zcq (by rw[h.size];exact ZdA (by assumption));grind
theorem Inv.put {z:Nat} {T:World} {K:Pm D} {J:Value} (g:oW P D cd mu ex ops.toList N ms φ0 s ops.toList.length d) (U:wQ P ops.toList ms) (h:Inv ops N ms φ0 s d M0 w0 E a w k M) (n:Nx ops ms E i o Z d)
  (R:VR K Z.v J) (u:cL (SG d ms E k) M w (SG d ms (ins E i) z) K T Z.lo Z.hi) (hk:(z=k/\Z.cls≠3)\/(z=k+1/\d.es[k]?=some i))
  (L:∀(j:Nat) (q:Rc D),ins E i j->d.rs[j]?=some q->piece D q->bU ms (fO d.es z) j->(d.hs.getD z .nil).get q.lo=none):Inv ops N ms φ0 s d M0 w0 (ins E i) (a.put o.dst J) T z K:=by
 have C:=g.oX.2 i Z n.r;have A:=u.Le (h.fresh i Z n.r n.no);have Q:∀x,o.dst=some x->x<a.tmps.size:=λx X=>by rw[h.size];exact g.dst i o x (Zam.1 n.o).1 n.o X
 refine⟨?_,λl e H=>?_,h.OI.QdP (u.PR (.inl C.1) (.inl C.2) (by have:=g.oX.1;omega)),λj q p m=>?_,λj I q t f p ht m=>?_,λt ht=>?_,by rw[Dx,h.size],by rw[wM,h.defers],L,λx y F S=>?_⟩
 ·rcases hk with⟨e,_⟩ | ⟨e,e2⟩
  ·rw[e];exact h.kle
  ·grind
 ·by_cases B:e=i
  ·subst B;rw[rZ];rcases hk with⟨_,r⟩ | ⟨Y,e2⟩
   ·obtain⟨_,q,h1,O⟩:=g.esr l e H;rw[n.r] at h1;cases h1;omega
   ·have:l=k:=by
     rcases Zcs l k with h1 | h1 | h1
     ·have:=g.inc l k e e h1 H e2;omega
     ·exact h1
     ·have:=g.inc k l e e h1 e2 H;omega
    simp;omega
  ·rw[kM B,h.ek l e H];grind
 ·have c:j≠i:=λe=>by grind [rZ]
  rw[kM c] at m;have W:=h.fresh j q p m;have V:q.hi<=Z.lo\/Z.hi<=q.lo:=by
   rcases Nat.lt_or_gt_of_ne c with h1 | h1
   ·exact .inl (g.apart j i q Z h1 p n.r)
   ·exact .inr (g.apart i j Z q h1 n.r p)
  intro b h1 O;rw[u.ext b ω];exact W b h1 O
 ·rw[wL a o.dst J t Q];by_cases c:j=i
  ·subst c;rw[n.o] at f;cases f;rw[n.r] at p;cases p;grind
  ·rw[Zaa (U.wr i j o I t n.o f (λe=>c e.symm) ht)];rw[kM c] at m;exact(h.fr1 j I q t f p ht m).mono A
 ·rw[wL a o.dst J t Q,Zaa (ht i o n.o (rZ E i))];exact λv R=>(h.fr2 t (λj I f m=>ht j I f (BM m)) v R).mono A
 ·by_cases G:y=i
  ·subst G;exact BM (n.pre x F)
  ·rw[kM G] at S;exact BM (h.down x y F S)
end
section
variable {P:Program} {D:Data} {cd:TypeId->Option Nat} {mu:Bool} {ex:yM D.E} {ops:Array Oper} {N:Nat} {ms:List Nat} {φ0:T (AV D.E)} {s:St D.E} {d:Ds D} {M0:Pm D} {w0:World}
variable {i k j:Nat} {Z:Rc D} {E:Nat->Bool} {Y:List Nat}
theorem ta (a:ia d.rs) (e:d.rs[i]?=some Z) (c:piece D Z=false):SG d ms (ins E i) k=SG d ms E k:=by
 funext b;refine Zdo λo=>?_
 grind [iF,kM]
theorem Mn (a:ia d.rs) (h:d.rs[i]?=some Z) (g:piece D Z) (e:bU ms (fO d.es k) i) (hz:SG d ms E k Z.lo=none) (b:Nat):
  SG d ms (ins E i) k b=if b=Z.lo then Z.pc.get Z.lo else SG d ms E k b:=by
 have f:(d.hs.getD k .nil).get Z.lo=none:=by
  cases c:(d.hs.getD k .nil).get Z.lo with
  | none=>rfl
  | some o=>rw[(iF a).2 (.inl c)] at hz;cases hz
 refine Zdo λo=>?_
 grind [iF,rZ,kM]
theorem nbs (e:Y[i]?=some k):bU ms (fO Y (i+1)) j↔j4 ms j k=false:=by
 grind [GJ]
def zZ {o:Oper} {rs:List (Rc D)} {hs:List (T (AO D.E))} (h:PL P D cd mu ex ops.toList ms φ0 rs hs Y i o Z) (a:Z.cls=3):iB P o=3:=by
 rcases h.kind with⟨e,_⟩ | ⟨e,_⟩ | ⟨e,_⟩ | ⟨_,_,e,_⟩
 ·omega
 ·omega
 ·omega
 ·exact e
def PT (a:oW P D cd mu ex ops.toList N ms φ0 s ops.toList.length d) (c:wQ P ops.toList ms) {f:Nat} (b:i<k) (g:d.es[i]?=some j) (l:d.es[k]?=some f):j4 ms j f:=by
 have u:=a.inc i k j f b g l;obtain⟨h1,r,m,n⟩:=a.esr i j g;obtain⟨o,q,p,t⟩:=a.esr k f l;have o1:=Zaf h1;have e:=Zaf o;have c1:=zZ (a.rc j _ r o1 m) n;have c2:=zZ (a.rc f _ q e p) t;rcases c.eff j f _ _ o1 e ω c1 c2 with h | h
 ·exact h
 ·have:=c.tonD.lt h;omega
theorem nbk (c:oW P D cd mu ex ops.toList N ms φ0 s ops.toList.length d) (a:wQ P ops.toList ms) (e:d.es[i]?=some k) (g:j4 ms j k=false):bU ms (fO d.es i) j:=by
 rw[GJ];cases i with
 | zero=>exact .inl rfl
 | succ i=>
  right;have hk:i<d.es.length:=by grind
  have b:=Zaf hk;have e2:d.es.getD (i+1-1) 0=d.es[i]:=by grind
  rw[e2];cases f:j4 ms j d.es[i] with
  | false=>rfl
  | true=>
   have:=a.tonD.trans f (PT c a (Zbr i) b e);grind
theorem Inv.step (hD:aP D) {o:Oper} {r:Rc D} {a:Act} {w:World} {M:Pm D} {K:Act->World->Prop} {Q:Exit->Act->World->Prop} (OH:yY P) (hex:yX P D ex)
  (W:oW P D cd mu ex ops.toList N ms φ0 s ops.toList.length d) (hL:wQ P ops.toList ms) (hlc:∀(i:Nat) (r:Rc D),d.rs[i]?=some r->r.cls=2->∃u,(ka P D cd ms d.rs i r d.hs 0 d.es).H u)
  (h:Inv ops N ms φ0 s d M0 w0 E a w k M) (n:Nx ops ms E i o r d) (hK:∀a' w' R M',Inv ops N ms φ0 s d M0 w0 (ins E i) a' w' R M'->K a' w'):wpOp P ops Q i K a w:=by
 obtain⟨a2,hf,he,hw⟩:=h.frame W hL n;have rc:=W.rc i o r n.o n.r;have p:ia d.rs:=W.apart;have hS:=h.OI.gn;have hnb:=n.eff h;unfold wpOp;rw[show ops[i]?=some o by rw[<-ZaL];exact n.o];simp only;rcases rc.kind with⟨c,F,Z,hhi⟩ | ⟨c,F,_,V,hhi⟩ | ⟨c,F,hcls,hhi⟩ | ⟨c,F,hcls,R,h0,h1,H,last,t,hh0,hh1,_,S,V⟩
 ·rw[Zaa (by grind [pM])];have O:piece D r=false:=by unfold piece;rw[c];rfl
  refine hK _ _ k M (h.put W hL n (by rw[Z];exact .undef) ?_ (.inl ⟨rfl,ω⟩) λj q L l f B=>?_)
  ·rw[ta p n.r O,hhi];exact .refl hS _
  ·by_cases e:j=i
   ·subst e;rw[n.r] at l;cases l;rw[O] at f;cases f
   ·rw[kM e] at L;exact h.i1 j q L l f B
 ·rw[Zac (by grind [pM])];have J:=h.fresh i r n.r n.no;have hz:r.lo<r.hi->SG d ms E k r.lo=none:=λX=>by
   cases A:SG d ms E k r.lo with
   | none=>rfl
   | some ob=>
    obtain⟨mi,hm,_⟩:=hS.obj _ _ A;rw[J r.lo (Zah _) X] at hm;cases hm
  have U:=BL (s:=⟨.nil,r.lo⟩) (s':=⟨r.pc,r.hi⟩) hD OH PO V (hS.sub (K:=(T.nil:T (AO D.E)).get) λb ob I=>by grind [T.get_nil]) hf J;refine .inl (U.wp he.symm _ _ λM' v' w' Z C=>hK _ _ k M' (h.put W hL n Z ?_ (.inl ⟨rfl,ω⟩) λj q L l f B=>?_))
  ·refine C.frame hS J (λb ob I=>by grind [T.get_nil]) λb=>?_
   have hdom:r.pc.get b≠none->b=r.lo/\r.lo<r.hi:=λI=>by
    rcases C.Me b I with h2 | h2
    ·grind [T.get_nil]
    ·grind
   show SG d ms (ins E i) k b=if (T.nil:T (AO D.E)).get b=none/\r.pc.get b=none then SG d ms E k b else r.pc.get b
   by_cases O:piece D r
   ·rw[Mn p n.r O hnb (hz (kK O).2)];grind [T.get_nil,kK]
   ·have hp':piece D r=false:=by grind
    rw[ta p n.r hp'];cases A:r.pc.get b with
    | none=>rw[Zac ⟨T.get_nil _,rfl⟩]
    | some ob=>
     have h5:=(hdom (by grind)).2;exact absurd (show piece D r=true by unfold piece;rw[c,b9.2 h5];rfl) O
  ·by_cases e:j=i
   ·subst e;rw[n.r] at l;cases l;cases A:(d.hs.getD k .nil).get r.lo with
    | none=>rfl
    | some ob=>have:=hz (kK f).2;rw[(iF p).2 (.inl A)] at this;cases this
   ·rw[kM e] at L;exact h.i1 j q L l f B
 ·rw[Zac (by grind [pM])];have O:piece D r=false:=by unfold piece;rw[c];rfl
  have hkl:k<d.hs.length:=by rw[W.rB];have:=h.kle;omega
  have hh:=Zaf hkl;have hms:oM ms i (fO d.es k) (d.es.drop k):=by
   unfold oM;rw[hnb];cases hdr:d.es.drop k with
   | nil=>rfl
   | cons e es=>
    have t:d.es[k]?=some e:=by
     have:=ZbX (xs:=d.es) (i:=k) (j:=0);grind
    show Bool.not (j4 ms e i)
    cases l:j4 ms e i with
    | false=>rfl
    | true=>
     have:=(h.ek k e t).1 (n.pre e l);omega
  have Qhf:∃u,(Bu P D cd ms d.rs i (fO d.es k) r d.hs[k]).H u:=by
   obtain⟨u,hu⟩:=hlc i r n.r c;have:=rY hu k _ hh h.kle;cases k with
   | zero=>exact this hms
   | succ k=>exact this hms
  obtain⟨u,hu⟩:=Qhf;obtain⟨v,hld,hsame⟩:=af.1 hu;rw[rc.op] at hld;obtain⟨H,S,V⟩:=PQ hcls hld;have z:=kL S p;have m:∀b ob,H.get b=some ob->SG d ms E k b=some ob:=by
   intro b ob I;rw[z b] at I;cases A:uN (λj=>Bool.and (j4 ms j i) (bU ms (fO d.es k) j)) d.rs 0 b with
   | none=>rw[A] at I;exact(iF p).2 (.inl (by grind))
   | some ob2=>
    rw[A] at I;cases I;obtain⟨j,q,g1,g2,g3,g4,g5⟩:=(jD p).1 A;rw[Za6] at g3;obtain⟨g6,g7⟩:=l4 g3;have hE:=n.pre j g6;refine(iF p).2 (.inr ⟨?_,j,q,g1,g2,hE,g7,g4,g5⟩);rw[<-g4];exact h.i1 j q hE g1 g2 g7
  have U:=(BL (s:=⟨H,0⟩) (s':=⟨H,0⟩) hD OH PO V (hS.sub m) hf (λb _ I=>ω)).same λM' v' Z=>PN hsame Z
  refine .inl (U.wp he.symm _ _ λM' v' w' Z C=>hK _ _ k M' (h.put W hL n Z ?_ (.inl ⟨rfl,ω⟩) λj q L l f B=>?_))
  ·have:=C.frame hS (λb _ I=>ω) m (H':=SG d ms (ins E i) k) λb=>by
    rw[ta p n.r O];show _=if H.get b=none/\H.get b=none then _ else H.get b
    cases A:H.get b with
    | none=>rw[Zac ⟨rfl,rfl⟩]
    | some ob=>rw[Zaa (by simp),m b ob A]
   exact this.PR (.inr rfl) (.inr rfl) rc.le
  ·by_cases e:j=i
   ·subst e;rw[n.r] at l;cases l;rw[O] at f;cases f
   ·rw[kM e] at L;exact h.i1 j q L l f B
 ·rw[Zac (by grind [pM])];have hkk:R=k:=by
   have e1:¬R<k:=λX=>by
    have:=(h.ek R i t).2 X;rw[n.no] at this;cases this
   by_cases e2:k<R
   ·have hk:k<d.es.length:=by grind
    have e3:=Zaf hk;have:=(h.ek k _ e3).1 (n.pre _ (PT W hL e2 e3 t));omega
   ·omega
  subst hkk;have O:piece D r=false:=by unfold piece;rw[c];rfl
  have J:=h.fresh i r n.r n.no;have hg0:=Dz hh0;have hg1:=Dz hh1;have hAt:ia (d.rs.take i):=λx y q q2 hxy l Y=>by
   rw[Za7] at l Y;split at l
   ·split at Y
    ·exact p x y q q2 hxy l Y
    ·cases Y
   ·cases l
  have z:=kL S hAt;have G:∀b ob,H.get b=some ob->(h0.get b=some ob/\True)\/∃(j:Nat) (q:Rc D),d.rs[j]?=some q/\piece D q/\j4 ms j i/\bU ms (fO d.es R) j/\q.lo=b/\q.pc.get b=some ob:=by
   grind [jD]
  have m:∀b ob,H.get b=some ob->SG d ms E R b=some ob:=by
   intro b ob I;rcases G b ob I with⟨I,_⟩ | ⟨j,q,g1,g2,g3,g4,g5,g6⟩
   ·grind [iF]
   ·have hE:=n.pre j g3;refine(iF p).2 (.inr ⟨?_,j,q,g1,g2,hE,g4,g5,g6⟩);rw[<-g5];exact h.i1 j q hE g1 g2 g4
  have hnone:∀(j:Nat) (q:Rc D),d.rs[j]?=some q->piece D q->E j->j4 ms j i=false->H.get q.lo=none:=by
   intro j q l f hE L;cases A:H.get q.lo with
   | none=>rfl
   | some ob=>
    exfalso;rcases G _ _ A with⟨I,_⟩ | ⟨j2,q2,g1,g2,g3,g4,g5,g6⟩
    ·have:=h.i1 j q hE l f (nbk W hL t L);grind
    ·have:=p.uniq g1 l g2 f g5;grind
  have U:=BL (s:=⟨H,r.lo⟩) (s':=⟨h1,r.hi⟩) hD OH hex V (hS.sub m) hf J;refine .inl (U.wp he.symm _ _ λM' v' w' Z C=>hK _ _ (R+1) M' (h.put W hL n Z ?_ (.inr ⟨rfl,t⟩) λj q L l f B=>?_))
  ·refine C.frame hS J m λb=>?_
   show SG d ms (ins E i) (R+1) b=if H.get b=none/\h1.get b=none then SG d ms E R b else h1.get b
   have hins:∀(j:Nat) (q:Rc D),d.rs[j]?=some q->piece D q->ins E i j->E j:=λj q l f L=>by
    by_cases e:j=i
    ·subst e;rw[n.r] at l;cases l;rw[O] at f;cases f
    ·grind [kM]
   cases A:h1.get b with
   | some ob=>rw[Zaa (by simp)];exact(iF p).2 (.inl (by grind))
   | none=>
    cases hgK:H.get b with
    | some ob=>
     rw[Zaa (by simp)];cases hgS:SG d ms (ins E i) (R+1) b with
     | none=>rfl
     | some ob2=>
      grind [iF,nbs]
    | none=>
     rw[Zac ⟨rfl,rfl⟩];have hz:=z b;rw[hgK] at hz;have hz1:uN (λj=>Bool.and (j4 ms j i) (bU ms last j)) (d.rs.take i) 0 b=none/\h0.get b=none:=by
      grind
     refine Zdo λob=>?_
     rw[iF p,iF p,hg0,hg1,A,hz1.2];constructor
     ·grind [nbk,nbs]
     ·rintro(g | ⟨_,j,q,g1,g2,g3,g4,g5,g6⟩)
      ·cases g
      ·refine .inr ⟨rfl,j,q,g1,g2,BM g3,(nbs t).2 ?_,g5,g6⟩;cases hm:j4 ms j i with
       | false=>rfl
       | true=>
        have X:=hL.tonD.lt hm;grind [jD]
  ·have e:j≠i:=λe=>by subst e;rw[n.r] at l;cases l;rw[O] at f;cases f
   rw[kM e] at L;have hm:=(nbs t).1 B;rw[hg1];cases A:h1.get q.lo with
   | none=>rfl
   | some ob=>
    exfalso;rcases C.Me q.lo (show h1.get q.lo≠none by grind) with g | g
    ·grind
    ·have g1:r.lo<=q.lo:=g.1;have g2:q.lo<r.hi:=g.2;have g3:=(kK f).2;rcases Nat.lt_or_gt_of_ne e with g4 | g4
     ·have:=p j i q r g4 l n.r;omega
     ·have:=p i j r q g4 n.r l;omega
end
section
variable {P:Program} {D:Data} {cd:TypeId->Option Nat} {mu:Bool} {ex:yM D.E} {ops:Array Oper} {N:Nat} {ms:List Nat} {φ0:T (AV D.E)} {s:St D.E} {d:Ds D} {M0:Pm D} {w0:World}
variable {l:Array Bool} {i:Nat}
theorem Mo (d:wQ P ops.toList ms) (cI:l.size=ops.size) (h:Region.ready .any ops l=[]):∀j,j<ops.size->l.getD j false:=by
 intro j
 induction j using Nat.strongRecOn with
 | _ j k=>
  intro g;cases c:l.getD j false with
  | true=>rfl
  | false=>
   have b:j<l.size:=ω;have:j∈Region.ready .any ops l:=mem_ready.2 ⟨by
    rw[ZaT,Za5 b] at c ⊢;exact c,ops[j],Za5 g,λe a f=>by
     have i:ops.toList[j]?=some ops[j]:=by grind
     obtain⟨h1,_,_⟩:=d.QdN j _ e i (by grind) f;exact k e.on h1 ω⟩
   grind
theorem count_set (h:i<l.size) (a:l.getD i true=false):(l.setIfInBounds i true).toList.count false+1=l.toList.count false:=by
 rw[Array.toList_setIfInBounds];have h1:l.toList[i]'(by assumption)=false:=by
  simp_all
 grind
theorem GK (h:l.toList.count false=0):∀j,j<l.size->l.getD j false:=by
 intro j a;have h1:l.toList[j]'(by assumption)≠false:=λe=>by
  grind
 simp_all
theorem Inv.done (c:oW P D cd mu ex ops.toList N ms φ0 s ops.toList.length d) {r:T (AO D.E)} (o:(kF D (bU ms d.last) d.rs 0 d.h).H r) {E:Nat->Bool} {a:Act} {w:World} {M:Pm D} (h:Inv ops N ms φ0 s d M0 w0 E a w i M) (k:∀j,j<ops.size->E j):
  cL s.h.get M0 w0 r.get M w s.nx d.nx/\FR M d.φ a N:=by
 have n:ia d.rs:=c.apart;have hk:i=d.es.length:=by
  have:=h.kle;by_cases z:i<d.es.length
  ·have A:=Zaf z;have u:=(c.esr i _ A).1;have:=(h.ek i _ A).1 (k _ (by assumption));omega
  ·omega
 subst hk;have l:d.hs.getD d.es.length .nil=d.h:=Dz c.cur;have B:∀(j:Nat) (q:Rc D),d.rs[j]?=some q->E j:=λj q C=>k j (by
  have:=(Zam.1 C).1;rw[c.len] at this;simpa using this)
 refine⟨?_,λt v p=>?_,h.size,h.defers⟩
 ·have:r.get=SG d ms E d.es.length:=by
   funext b;rw[kL o n b];refine Zdo λob=>?_
   rw[iF n,l];cases I:uN (bU ms d.last) d.rs 0 b with
   | some J=>
    obtain⟨j,q,g1,g2,g3,g4,g5⟩:=(jD n).1 I;rw[Za6,c.last] at g3;have hz:=h.i1 j q (B j q g1) g1 g2 g3;rw[l,g4] at hz;constructor
    ·grind
    ·rintro(g | ⟨_,F,G,k1,k2,k3,k4,k5,k6⟩)
     ·grind
     ·have:=n.uniq k1 g1 k2 g2 (k5.trans g4.symm);grind
   | none=>
    constructor
    ·grind
    ·rintro(g | ⟨_,F,G,k1,k2,k3,k4,k5,k6⟩)
     ·exact g
     ·have:uN (bU ms d.last) d.rs 0 b=some ob:=(jD n).2 ⟨F,G,k1,k2,by rw[Za6,c.last];exact k4,k5,k6⟩;grind
  rw[this];exact h.OI
 ·by_cases hex:∃(j:Nat) (f:Oper),ops.toList[j]?=some f/\f.dst=some t
  ·obtain⟨j,f,h1,u⟩:=hex;have y:j<d.rs.length:=by rw[c.len];exact(Zam.1 h1).1
   have x:=Zaf y;rw[c.phi.1 j _ f t x h1 u] at p;cases p;exact h.fr1 j f _ t h1 x u (B j _ x)
  ·rw[c.phi.2 t λj q f C m e=>hex ⟨j,f,m,e⟩] at p;exact h.fr2 t (λj f m _ e=>hex ⟨j,f,m,e⟩) v p
theorem QdQ (K:aP D) {Q:Exit->Act->World->Prop} {t:T (AO D.E)} (z:yY P) (hex:yX P D ex) (m:oW P D cd mu ex ops.toList N ms φ0 s ops.toList.length d) (v:wQ P ops.toList ms) (y:∀(i:Nat) (r:Rc D),d.rs[i]?=some r->r.cls=2->∃u,(ka P D cd ms d.rs i r d.hs 0 d.es).H u)
  (f:(kF D (bU ms d.last) d.rs 0 d.h).H t) (L:∀p q C,cL s.h.get M0 w0 t.get p C s.nx d.nx->FR p d.φ q N->Q .normal q C):
  ∀(fuel:Nat) (b:Array Bool) (a:Act) (w:World) (k:Nat) (M:Pm D),b.size=ops.size->b.toList.count false<=fuel->Inv ops N ms φ0 s d M0 w0 (λj=>b.getD j false) a w k M->wpAny P .any ops Q fuel b a w:=by
 intro fuel
 induction fuel with
 | zero=>
  intro b a w k M cI F h;have g:=GK (Zda.1 F);have c:=h.done m f (λj x=>g j ω);refine⟨?_,L M a w c.1 c.2⟩;refine List.eq_nil_iff_forall_not_mem.2 λj x=>?_
  grind [mem_ready]
 | succ fuel U=>
  intro b a w k M cI F h;refine⟨λR=>?_,λi hi=>?_⟩
  ·have c:=h.done m f (Mo v cI R);grind
  ·obtain⟨h1,o,I,J⟩:=mem_ready.1 hi;have l:i<ops.size:=(ZbU.1 I).1;have O:i<b.size:=ω;have G:ops.toList[i]?=some o:=by grind
   have B:i<d.rs.length:=by rw[m.len];simpa using l
   have A:b.getD i false=false:=by
    grind
   have n:Nx ops ms (λj=>b.getD j false) i o d.rs[i] d:=⟨G,Zaf B,A,λj x=>by
    obtain⟨W,e,g1,g2,g3,_,g4⟩:=v.back j i x;rw[G] at g1;cases g1;have g5:=J e (by grind) g3;rcases g4 with rfl | g4
    ·exact g5
    ·exact h.down j e.on g4 g5⟩
   refine h.step K z hex m v y n λq C V p t=>?_
   have S:ins (λj=>b.getD j false) i=λj=>(b.setIfInBounds i true).getD j false:=by
    funext j;unfold ins;by_cases e:j=i
    ·simp_all
    ·rw[getD_set_ne false (Ne.symm e)];simp[e]
   grind [count_set]
theorem PU (R:aP D) {id:Nat} {m:St D.E} {φ n:T (AV D.E)} (g:P.follows .mixedOrders) (F:yY P) (hex:yX P D ex) (h:(Pc P D cd mu ex ops.toList N s φ).H (m,n)):s.nx<=m.nx/\
  ∀(M:Pm D) (a:Act) (w:World),ey M s.h.get w->FR M φ a N->bR M s.nx m.nx->∀Q:Exit->Act->World->Prop,
   (∀p q v,cL s.h.get M w m.h.get p v s.nx m.nx->FR p n q N->Q .normal q v)->(Code.region id ops true).wp P Q a w:=by
 obtain⟨ms,k,h1⟩:=af.1 h;obtain⟨d,y,K⟩:=af.1 h1;obtain⟨u,x,L⟩:=af.1 K;obtain⟨W,f,O⟩:=af.1 L;cases ai.1 O;rw[bu] at k;have I:=yZ k;have c:=wR (pre:=[]) I rfl (oW.start s φ) y;have C:∀(i:Nat) (r:Rc D),d.rs[i]?=some r->r.cls=2->∃u,(ka P D cd ms d.rs i r d.hs 0 d.es).H u:=λi r G V=>by
  have:=ui x i r G V;grind
 refine⟨c.oX.1,λM a w J z B Q U=>?_⟩;have S:(λj=>(Array.replicate ops.size false).getD j false)=λ_=>false:=by
  funext j;rw[ZaT,Array.getElem?_replicate];split<;>rfl
 refine wp_region_any g (QdQ (M0:=M) (w0:=w.drew) R F hex c I C f (λp q v hs A=>U p q v ((cL.vu J s.nx).trans hs) A) _ _ _ _ 0 M (by simp) (by simp) ?_);rw[S];have h0:d.hs.getD 0 .nil=s.h:=Dz c.h0;refine⟨Zaj _,λl e _=>⟨λh=>(by cases h),λh=>ω⟩,?_,λi r G _ b X Y=>?_,λi o r t _ _ _ h=>(by cases h),λt _=>z.at_ t,z.size,z.defers,λj r h=>(by cases h),λi j _ h=>(by cases h)⟩
 ·have:SG d ms (λ_=>false) 0=s.h.get:=by
   funext b;refine Zdo λob=>?_
   rw[iF c.apart,h0];grind
  rw[this];exact(cL.refl (cL.vu J s.nx).gn s.nx).PR (.inr rfl) (.inr rfl) c.oX.1
 ·have:=c.oX.2 i r G;exact B b ω (by grind)
end
section
variable {P:Program} {D:Data} {M M':Pm D} {w w':World} {H:Hp D} {s s':St D.E} {lo:Nat}
variable {b a:Nat} {Z:Ren} {c:MI}
def TF (M:Pm D) (n:Nat):Prop:=∀b,n<=b->M.pl b=none
def TF.fresh (h:TF M b):bR M b a:=λlo h1 _=>h lo h1
def TF.OI {hi:Hp D} (h:TF M b) (hs:cL H M w hi M' w' b a):TF M' a:=λlo c=>by
 have:=hs.le;rw[hs.ext lo ω];exact h lo ω
theorem bR.next {c:Hp D} {lo hi:Nat} (h:bR M lo hi) (hs:cL H M w c M' w' lo a):bR M' a hi:=λb h1 d=>by
 have:=hs.le;rw[hs.ext b ω];exact h b ω d
def bR.fst {hi:Nat} (h:bR M b hi) (d:a<=hi):bR M b a:=λlo h1 c=>h lo h1 ω
def TF.lt (h:TF M b) (n:M.pl a=some c):a<b:=by
 refine Zdy λhle=>?_
 rw[h a hle] at n;cases n
noncomputable def rl (r:Ren) (M:Pm D):Pm D:=⟨λt=>(dT r t).bind M.pl,M.sg⟩
def Ext (r a:Ren):Prop:=∀t b,dT r t=some b->dT a t=some b
def Inj (r:Ren):Prop:=∀t a b,dT r t=some b->dT r a=some b->t=a
theorem wT (h:dT Z b=some a) (t:M.pl a=some c):(rl Z M).pl b=some c:=by
 show(dT Z b).bind M.pl=some c
 grind
theorem fU (h:(rl Z M).pl b=some c):∃t,dT Z b=some t/\M.pl t=some c:=by
 have a:(dT Z b).bind M.pl=some c:=h;cases d:dT Z b with
 | none=>rw[d] at a;cases a
 | some t=>rw[d] at a;exact⟨t,rfl,a⟩
def Ke {c:Ren} (a:Le M M') (e:Ext Z c):Le (rl Z M) (rl c M'):=⟨λt f h=>by
 obtain⟨b,h1,d⟩:=fU h;exact wT (e _ _ h1) (a.1 _ _ d),a.2⟩
theorem Ext.refl (r:Ren):Ext r r:=λ_ _ h=>h
def Ext.trans {c a:Ren} (h:Ext Z c) (k:Ext c a):Ext Z a:=λt b e=>k t b (h t b e)
theorem jf (t b:Nat) (r:Ren) (x:Nat):dT ((t,b)::r) x=if t=x then some b else dT r x:=by
 grind [dT,wA]
theorem DA (h:dT Z b=some a):(b,a)∈Z:=by
 induction Z with
 | nil=>cases(show none=some a from h)
 | cons p Z t=>
  grind [jf]
theorem mG (h:yT Z b=false):∀t,dT Z t≠some b:=λt e=>by
 have:yT Z b:=wP.2 ⟨(t,b),DA e,aF.2 rfl⟩;grind
theorem fj {α:Type} (t:Nat) (a:α) (l:List (Nat×α)) (x:Nat):ch ((t,a)::l) x=if t=x then some a else ch l x:=by
 grind [ch,wA]
theorem oZ {α:Type} {l:List (Nat×α)} {a:α} (h:ch l b=some a):(b,a)∈l:=by
 induction l with
 | nil=>cases(show none=some a from h)
 | cons p l t=>
  grind [fj]
structure Mv (m m':Mt D.E):Prop where
 inj:Inj m.r->Inj m'.r
 ext:Ext m.r m'.r
 Xr:∀t b,dT m.r t=some b->m'.s.h.get b=m.s.h.get b
 td:∀p∈m.todo,p∈m'.todo
 new:∀t b,dT m'.r t=some b->dT m.r t=some b\/(t,b)∈m'.todo
 le:m.s.nx<=m'.s.nx
theorem Mv.refl (m:Mt D.E):Mv m m:=⟨id,.refl _,λ_ _ _=>rfl,λ_ h=>h,λ_ _ h=>.inl h,Zah _⟩
theorem Mv.trans {m d a:Mt D.E} (h:Mv m d) (k:Mv d a):Mv m a:=
 ⟨λi=>k.inj (h.inj i),h.ext.trans k.ext,λt b e=>(k.Xr t b (h.ext t b e)).trans (h.Xr t b e),λp f=>k.td p (h.td p f),λt b e=>by
  rcases k.new t b e with h1 | h1
  ·rcases h.new t b h1 with c | c
   ·grind
   ·exact .inr (k.td _ c)
  ·exact .inr h1,Zav h.le k.le⟩
abbrev Sm (m a:Mt D.E) (M:Pm D) (w:World) (b:Pm D):Prop:=cL m.s.h.get M w a.s.h.get b w m.s.nx a.s.nx
variable {b:Nat} {y:AO D.E} {m a:Mt D.E}
theorem BN {t:Nat} (h:(pair D m b t).H a):Mv m a/\a.s=m.s/\dT a.r b=some t:=by
 unfold pair at h;cases g:dT m.r b with
 | some j=>
  rw[g] at h;obtain⟨h1,d⟩:=bm.1 (show(bB (Nat.beq j t) (.ret m)).H a from h);cases ai.1 d;exact⟨.refl _,rfl,by simp_all⟩
 | none=>
  rw[g] at h;rcases im.1 (show(bE (yT m.r t) .fail (.ret ⟨m.s,(b,t)::m.r,(b,t)::m.todo⟩)).H a from h) with⟨_,d⟩ | ⟨h1,d⟩
  ·exact d.elim
  ·cases ai.1 d;have k:=mG h1;refine⟨⟨λhi x i c e f=>?_,λx c e=>?_,λ_ _ _=>rfl,λp l=>ZaU _ l,λx c e=>?_,Zah _⟩,rfl,by grind [jf]⟩
   ·rw[jf] at e f;by_cases q:b=x<;>by_cases n:b=i
    ·omega
    ·grind
    ·grind
    ·rw[Zaa q] at e;rw[Zaa n] at f;exact hi x i c e f
   ·grind [jf]
   ·grind [jf]
theorem cL.void {o1:AO D.E} {i:MI} (f:ey M H w) (B:H b=some y) (C:M.pl b=some i) (F:i.real=false) (u:OR M o1 i w) (lo:Nat):cL H M w (iY H b (some o1)) M w lo lo:=by
 have a:∀c o,c≠b->iY H b (some o1) c=some o->H c=some o:=λc o e h=>by grind [iY]
 refine⟨⟨λc o h=>?_,λc l o x m v h p e n r A s=>?_,f.gE,λc o m h hw e d j t=>?_,λc k xs e m h g d=>?_,⟨f.ml.1,λc o m h hw e d=>?_⟩⟩,λ_ _=>rfl,λ_ _ _ h=>h,λ_ _ h=>.inl h,Zah _,λ_ _ _=>rfl,λc o m h e d=>?_,λc h=>?_,rfl,rfl,rfl,Zah _⟩
 ·by_cases q:c=b
  ·grind [iY]
  ·exact f.obj c o (a c o q h)
 ·have q:c≠b:=λq=>by grind
  have z:l≠b:=λq=>by grind
  exact f.inj c l o x m v (a _ _ q h) (a _ _ z p) e n r A s
 ·have q:c≠b:=λq=>by grind
  exact f.sep c o m (a _ _ q h) hw e d j t
 ·have q:c≠b:=λq=>by grind
  exact f.J2 c k xs e m (a _ _ q h) g d
 ·have q:c≠b:=λq=>by grind
  exact f.ml.2 c o m (a _ _ q h) hw e d
 ·grind
 ·by_cases q:c=b
  ·grind
  ·obtain⟨o,u⟩:=Zbs.1 h;grind
theorem cL.lock {o1:AO D.E} {a:MI} {cs:List (AV D.E)} (s:ey M H w) (t:H b=some y) (hw:y.wr) (f:∀j,y.s6 a j) (n:M.pl b=some a) (p:a.real) (B:o1.wr=false)
  (A:∀v∈cs,mA v) (x:∀(i:Nat) (v:AV D.E),cs[i]?=some v->∃m,w.cell? ⟨a.bN,a.sh+i,none⟩=some m/\VR M v m)
  (z:∀r,sx.Le M r->OR r o1 a w) (q:∀c xs e,o1=.arr c xs e true->ck (⟨M.pl,cV M.sg a.bN a.sh cs⟩:Pm D) a.bN a.sh c xs) (lo:Nat):
  cL H M w (iY H b (some o1)) ⟨M.pl,cV M.sg a.bN a.sh cs⟩ w lo lo:=by
 have d:∀j,M.sg a.bN j=none:=λj=>s.sep b y a t hw n p j (f j)
 have k:∀b o v,M.sg b o=some v->cV M.sg a.bN a.sh cs b o=some v:=kJ λo _ _=>d o
 have hle:sx.Le M ⟨M.pl,cV M.sg a.bN a.sh cs⟩:=⟨λ_ _ h=>h,k⟩;have:=cL.upon (M1:=⟨M.pl,cV M.sg a.bN a.sh cs⟩) (sg1:=cV M.sg a.bN a.sh cs) (b0:=b) (b1:=b) (o1:=o1) (BC:=a) (lo:=lo) (hi:=lo) (w':=w) s t hw n p p rfl (by
   congr 1;funext c;by_cases e:c=b
   ·rw[Zac e,e];exact n
   ·rw[Zaa e]) (.inl ⟨rfl,rfl,rfl⟩) k (λb o h=>mD h) rfl (λ_ _=>rfl) rfl rfl rfl (z _ hle)
  (λo v g=>by
   unfold cV at g;split at g
   ·rename_i l
    obtain⟨m,h1,u⟩:=x _ v g;refine⟨A v (ZaJ g),m,?_,u.mono hle⟩;grind
   ·rw[d] at g;cases g) (λh=>by grind) q
 have e2:(λc=>if c=b then some o1 else if c=b then none else H c)=iY H b (some o1):=by
  grind [iY]
 grind
theorem PV (h:H b=some y):iY H b (some y)=H:=by
 grind [iY]
theorem kN (B:aP D) {x:Ar D.E} (h:(rJ D m b).H (x,a)):Mv m a/\a.r=m.r/\∀M w,ey M m.s.h.get w->∃n,Sm m a M w n/\n.pl=M.pl/\
  ∃d,M.pl b=some d/\d.len=x.xs.length/\d.je=D.size x.c/\(d.real->ck n d.bN d.sh x.c x.xs):=by
 unfold rJ at h;rcases im.1 h with⟨_,h0⟩ | ⟨h0,h1⟩
 ·exact h0.elim
 obtain⟨G,L,J⟩:=af.1 h1;obtain⟨A,hs,q⟩:=af.1 J;have q:=ai.1 q;simp only[Zbx] at q;obtain⟨rfl,rfl⟩:=q;have j:=jw L;obtain⟨z,F⟩:=kI hs;have N:=mG h0;refine⟨⟨id,.refl _,λt c e=>?_,λ_ h=>h,λ_ _ h=>.inl h,Zd1 F.symm⟩,rfl,λM w o=>?_⟩
 ·show A.h.get c=m.s.h.get c
  rw[z];grind [iY]
 ·obtain⟨d,k,f,g,p⟩:=o.obj b _ j;obtain⟨c,xs,e,ro⟩:=G;simp only at j z f g p ⊢;unfold Sm;show ∃n,cL m.s.h.get M w A.h.get n w m.s.nx A.nx/\_
  rw[z,F];cases ro with
  | true=>
   refine⟨M,by rw[PV j];exact .refl o _,rfl,d,k,f,g,λl=>o.J2 b c xs e d j k l⟩
  | false=>
   by_cases l:d.real
   ·obtain⟨C,I,k1,k2,k3,k4,k5⟩:=p l;refine⟨_,cL.lock (o1:=.arr c xs e true) (cs:=aM c xs) o j rfl (λ_=>trivial) k l rfl (λv u=>(dX B u).2) (λi v u=>?_) (λQ K=>⟨f,g,λ_=>⟨C,I,k1,k2,k3,λi v u=>let ⟨O,x,b⟩:=k4 i v u;⟨O,x,b.mono K⟩,λh=>by cases h⟩⟩) (λc2 P e2 R=>?_) _,rfl,d,k,f,g,λ_=>ck.add B⟩
    ·grind [World.cell?]
    ·grind [ck.add]
   ·have y:d.real=false:=by grind
    exact⟨M,cL.void (o1:=.arr c xs e true) o j k y ⟨f,g,λh=>absurd h l⟩ _,rfl,d,k,f,g,λh=>absurd h l⟩
end
section
variable {P:Program} {D:Data} {M M':Pm D} {w w':World} {H:Hp D} {s s':St D.E} {lo:Nat} {m m':Mt D.E}
variable {b o c:Nat} {a Y:AV D.E} {Z:Int} {X:AO D.E} {W:St D.E} {V:List (Nat×AO D.E)}
variable {O:Nat} {U:List (D.E c)}
def yN (m b:Mt D.E) (a t:AV D.E):Prop:=Mv m b/\∀M w,ey M m.s.h.get w->bR M m.s.nx b.s.nx->∃c,Sm m b M w c/\∀v,VR M a v->VR (rl b.r c) t v
theorem ck.take (h:ck M b o c U) (n:Nat):ck M b o c (U.take n):=λi hi j v e=>by
 have a:i<U.length:=by grind
 rw[ZcP] at e;exact h i a j v e
theorem ck.drop (h:ck M b o c U) (n:Nat):ck M b (o+n*D.size c) c (U.drop n):=λi hi j v e=>by
 have a:n+i<U.length:=by grind
 rw[Zdm] at e;have:=h (n+i) a j v e;grind
theorem lM {r:Ren} {v:Value} (h:VR M a v) (t:mA a):VR (rl r M) a v:=h.pure t λ_ _ _ e=>e
def yN.same (c:mA Y) (h:∀M v,VR M a v->VR M Y v) (m:Mt D.E):yN m m a Y:=
 ⟨.refl m,λM e b _=>⟨M,.refl b _,λv d=>lM (h M v d) c⟩⟩
theorem tb {c:Nat} {xs:List (D.E c)} {b k:Nat} {v:Value} {a:MI} (p:M'.pl=M.pl) (i:M.pl b=some a) (hl:a.len=xs.length) (hz:a.je=D.size c) (hs:a.real->ck M' a.bN a.sh c xs):
  (VR M (.own b k Z) v->VR M' (.list c xs) v)/\(VR M (.pre b k Z) v->VR M' (.list c (bW xs Z)) v)/\(∀o,VR M (.part b k o Z) v->VR M' (.list c (qD xs o Z)) v):=by
 refine⟨λh=>?_,λh=>?_,λo h=>?_⟩
 ·cases h with
  | own h hk g f d j ht=>
   rw[i] at h;cases h;rw[hl] at d j ⊢;exact .list (hs g) d j
  | l5 h hk g f h0=>
   rw[i] at h;cases h;have:xs=[]:=Zap ω;subst this;exact .fh
 ·cases h with
  | pre h hk g f d hle j ht=>
   rename_i l cap m
   rw[i] at h;cases h;subst f;have e:(bW xs (l:Int)).length=l:=by grind [bW]
   have:=VR.list (M:=M') (c:=c) (xs:=bW xs (l:Int)) (b:=a.bN) (o:=a.sh) (cap:=cap) ((hs g).take _) ω ω;grind
  | oP h hk g f h0=>
   rw[i] at h;cases h;have:xs=[]:=Zap ω;subst this;have e:bW ([]:List (D.E c)) Z=[]:=by simp[bW]
   rw[e];exact .fh
 ·cases h with
  | part h hk g f q hle d j=>
   rename_i l cap m
   rw[i] at h;cases h;subst f;have e:(qD xs o (l:Int)).length=l:=by simp[qD];omega
   have:=VR.list (M:=M') (c:=c) (xs:=qD xs o (l:Int)) (b:=a.bN) (o:=a.sh+o.toNat*D.size c) (cap:=cap) (((hs g).drop _).take _) ω ω;grind
  | jB h hk f q=>
   subst f;have e:qD xs o 0=[]:=by rfl
   rw[e];exact .fh
def PW (u:aP D) {z:List (D.E b)} (h:(Pd D m a b z).H m'):yN m m' a (.list b z):=by
 cases a<;>simp only[Pd] at h<;>(try exact h.elim)
 case list s xs=>
  obtain⟨t,h1,g⟩:=af.1 h;obtain⟨rfl,e⟩:=cC h1;cases e;obtain⟨rfl,d⟩:=cw.1 g;cases ai.1 d;exact .same rfl (λM v f=>f) m
 case grow s xs c=>
  obtain⟨t,h1,g⟩:=af.1 h;obtain⟨rfl,e⟩:=cC h1;cases e;obtain⟨rfl,d⟩:=cw.1 g;cases ai.1 d;refine .same rfl (λM v f=>?_) m;cases f with
  | grow h C hl hz hs B A ht=>exact .list hs B A
  | j5 h C=>exact .fh
 case cF=>
  obtain⟨rfl,d⟩:=cw.1 h;cases ai.1 d;refine .same rfl (λM v f=>?_) m;cases f;exact .fh
 case own c k n=>
  obtain⟨a,m1,h1,g⟩:=bh.1 h;obtain⟨t,d,j⟩:=af.1 g;obtain⟨s,xs,e,ro⟩:=a;obtain⟨rfl,e⟩:=cC d;cases e;obtain⟨rfl,l⟩:=cw.1 j;cases ai.1 l;obtain⟨q,y,r⟩:=kN u h1;refine⟨q,λM w p _=>?_⟩;obtain⟨i,g1,g2,x,g3,g4,g5,g6⟩:=r M w p;exact⟨i,g1,λv f=>lM ((tb g2 g3 g4 g5 g6).1 f) rfl⟩
 case pre c k n=>
  obtain⟨a,m1,h1,g⟩:=bh.1 h;obtain⟨t,d,j⟩:=af.1 g;obtain⟨s,xs,e,ro⟩:=a;obtain⟨rfl,e⟩:=cC d;cases e;obtain⟨rfl,l⟩:=cw.1 j;cases ai.1 l;obtain⟨q,y,r⟩:=kN u h1;refine⟨q,λM w p _=>?_⟩;obtain⟨i,g1,g2,x,g3,g4,g5,g6⟩:=r M w p;exact⟨i,g1,λv f=>lM ((tb g2 g3 g4 g5 g6).2.1 f) rfl⟩
 case part c k o n=>
  obtain⟨a,m1,h1,g⟩:=bh.1 h;obtain⟨t,d,j⟩:=af.1 g;obtain⟨s,xs,e,ro⟩:=a;obtain⟨rfl,e⟩:=cC d;cases e;obtain⟨rfl,l⟩:=cw.1 j;cases ai.1 l;obtain⟨q,y,r⟩:=kN u h1;refine⟨q,λM w p _=>?_⟩;obtain⟨i,g1,g2,x,g3,g4,g5,g6⟩:=r M w p;exact⟨i,g1,λv f=>lM ((tb g2 g3 g4 g5 g6).2.2 o f) rfl⟩
theorem Qhg (d:(m.s.new X).H (b,W)) (h:yT m.r b=false):Mv m ⟨W,m.r,m.todo⟩:=by
 obtain⟨rfl,g,f⟩:=qF d;refine⟨id,.refl _,λt c e=>?_,λ_ h=>h,λ_ _ h=>.inl h,by grind⟩;show W.h.get c=m.s.h.get c
 rw[f];grind [mG,iY]
theorem DB {o:AO D.E} {mi:MI} (k:(m.s.new o).H (O,W)) (h:(JX D ⟨W,m.r,m.todo⟩ b O).H m') (g:∀c xs e,o≠.arr c xs e true) (z:mi.real=false) (u:∀M w,OR M o mi w)
  (x:∀M j,j.pl O=some mi->dT m'.r b=some O->∀v,VR M a v->VR (rl m'.r j) Y v):yN m m' a Y:=by
 rcases im.1 h with⟨_,h0⟩ | ⟨h0,h⟩
 ·exact h0.elim
 have h1:=Qhg k h0;obtain⟨p1,p2,p3⟩:=BN h;obtain⟨rfl,l,y⟩:=qF k;refine⟨h1.trans p1,λM w p d=>⟨M.add m.s.nx mi,?_,λv i=>x M _ (by simp[Pm.add]) p3 v i⟩⟩;rw[p2] at d;have d:bR M m.s.nx W.nx:=d;unfold Sm;rw[p2];show cL m.s.h.get M w W.h.get _ w m.s.nx W.nx
 rw[l] at d;rw[l,y];exact cL.nt (o:=o) (mi:=mi) p (d _ (Zah _) (Zbr _)) (λh=>by grind) (Zah _) (λ_ _=>rfl) rfl rfl rfl (u _ _) (λc xs e q=>absurd q (g c xs e))
def PX (h:(Qbu D V m b o Z).H m'):yN m m' .cF (.own b o Z):=by
 obtain⟨k,a,h1⟩:=af.1 h;clear a;cases k<;>simp only at h1<;>(try exact h1.elim)
 rename_i c _ e _
 obtain⟨hk,f⟩:=bm.1 h1;obtain⟨d,t,g,i⟩:=bh.1 f;obtain⟨q,j⟩:=cw.1 i;refine DB (mi:=⟨0,0,0,D.size c,0,false⟩) g j (λ_ _ _ h=>by cases h) rfl (λM w=>⟨rfl,rfl,λh=>by cases h⟩) λM s p l v r=>?_
 cases r;exact .l5 (wT l p) (aF.1 hk) rfl q.symm rfl
def PY {f:List (D.E o)} (h:(Qbv D V m b o f).H m'):yN m m' .cF (.grow o f b):=by
 obtain⟨c,a,h1⟩:=af.1 h;clear a;cases c<;>simp only at h1<;>(try exact h1.elim)
 rename_i c2 e
 obtain⟨d,q,g,i⟩:=bh.1 h1;obtain⟨rfl,j⟩:=cw.1 i;refine DB (mi:=⟨0,0,0,D.size c2,0,false⟩) g j (λ_ _ _ h=>by cases h) rfl (λM w=>⟨rfl,λh=>by cases h⟩) λM p l k v n=>?_
 cases n;exact .j5 (wT k l) rfl
theorem Xs (Q:aP D) {k:Nat} {n:Int} (h:(QdB D m b O Z c k n).H m'):yN m m' (.pre b O Z) (.own c k n):=by
 unfold QdB at h;rcases im.1 h with⟨_,h0⟩ | ⟨h0,h1⟩
 ·exact h0.elim
 obtain⟨hk,h2⟩:=bm.1 h1;obtain rfl:=aF.1 hk;obtain⟨a,ha,h3⟩:=af.1 h2;rcases im.1 h3 with⟨_,P⟩ | ⟨K,P⟩
 ·exact P.elim
 obtain⟨A,hs,X⟩:=af.1 P;obtain⟨b2,q,u,N⟩:=bh.1 X;obtain⟨rfl,h7⟩:=cw.1 N;rcases im.1 h7 with⟨_,y⟩ | ⟨y,h9⟩
 ·exact y.elim
 have y:yT m.r b2=false:=y;have F:=jw ha;obtain⟨W,xs,e,ro⟩:=a;simp only at K F u;subst K;obtain⟨q1,f⟩:=kI hs;obtain⟨p1,p2,p3⟩:=BN h9;obtain⟨rfl,g1,g2⟩:=qF u;rw[f] at g1 y p3;rw[f,q1] at g2;have hno:=mG h0;have Y:=mG y;have T:Mv m ⟨q,m.r,m.todo⟩:=by
  refine⟨id,.refl _,λt W e=>?_,λ_ h=>h,λ_ _ h=>.inl h,by grind⟩;show q.h.get W=m.s.h.get W
  rw[g2];grind [iY]
 refine⟨T.trans p1,λM w z x=>?_⟩;obtain⟨mi,I,X,N,S⟩:=z.obj b _ F;rw[p2] at x;have E:bR M m.s.nx q.nx:=x;rw[g1] at E;have x:M.pl m.s.nx=none:=E _ (Zah _) (Zbr _);unfold Sm;rw[p2];show ∃B,cL m.s.h.get M w q.h.get B w m.s.nx q.nx/\_
 rw[g1,g2]
 
 by_cases hle:0<=Z/\Z.toNat<=mi.len
 ·let d:MI:=⟨mi.bN,mi.sh,mi.qE,mi.je,Z.toNat,mi.real⟩
  have G:d.len=(bW xs Z).length:=by grind [bW]
  have L:∀B:Pm D,B.pl m.s.nx=some d->∀v,VR M (.pre b O Z) v->VR (rl m'.r B) (.own c O Z) v:=λB J v p=>by
   cases p with
   | pre h hk g u U hl hc ht=>
    rename_i l cap Mc
    rw[I] at h;cases h;subst u;exact VR.own (mi:=d) (wT p3 J) hk g rfl (by grind) (by grind) ht
   | oP h hk g u h0=>
    rw[I] at h;cases h;exact VR.l5 (mi:=d) (wT p3 J) hk g u (by grind)
  by_cases g:mi.real
  ·obtain⟨C,fz,k1,k2,k3,k4,k5⟩:=S g;have R:Le M (M.add m.s.nx d):=Pm.qK x;have:=cL.upon (b0:=b) (b1:=m.s.nx) (o0:=.arr W xs e false) (o1:=.arr W (bW xs Z) e false) (rA:=mi) (BC:=d) (M1:=M.add m.s.nx d) (sg1:=M.sg) (lo:=m.s.nx) (hi:=m.s.nx+1) (w':=w) z F rfl I g g rfl rfl (.inr ⟨rfl,x,rfl⟩) (λ_ _ _ h=>h) (λ_ _ h=>.inl h) rfl (λ_ _=>rfl) rfl rfl rfl
    ⟨G,N,λ_=>⟨C,fz,k1,k2,by
     have:(aM W (bW xs Z)).length<=(aM W xs).length:=by
      rw[aS Q,aS Q];exact Zbc _ (by grind)
     show mi.sh+_<=mi.qE
     omega,λi v p=>by
     have V:(aM W xs)[i]?=some v:=by
      rw[show bW xs Z=xs.take Z.toNat from rfl,ny Q] at p;rw[Za7] at p;split at p
      ·exact p
      ·cases p
     obtain⟨v',a1,a2⟩:=k4 i v V;exact⟨v',a1,a2.mono R⟩,k5⟩⟩
    (λo v p=>by
     rw[z.sep b _ mi F rfl I g o trivial] at p;cases p) (λ_ j _=>z.sep b _ mi F rfl I g j trivial)
   refine⟨M.add m.s.nx d,?_,L _ (by simp[Pm.add])⟩;assumption
  ·have hr':mi.real=false:=by grind
   have A:=cL.drop (b:=b) z m.s.nx;have q:=cL.nt (o:=.arr W (bW xs Z) e false) (mi:=d) A.gn x (λh=>absurd h g) (Zah _) (λ_ _=>rfl) rfl rfl rfl (w':=w) ⟨G,N,λh=>absurd h g⟩;exact⟨M.add m.s.nx d,A.trans q,L _ (by simp[Pm.add])⟩
 ·
  let d:MI:=⟨0,0,0,D.size W,(bW xs Z).length,false⟩
  have A:=cL.drop (b:=b) z m.s.nx;have q:=cL.nt (o:=.arr W (bW xs Z) e false) (mi:=d) A.gn x (λh=>by cases h) (Zah _) (λ_ _=>rfl) rfl rfl rfl (w':=w) ⟨rfl,rfl,λh=>by cases h⟩;refine⟨M.add m.s.nx d,A.trans q,λv p=>?_⟩;exfalso;cases p with
  | pre h hk g u U hl hc ht=>
   grind
  | oP h hk g u h0=>
   omega
end
end sx
end Go.Proofs.YtadfknojfbmjgaaGreat
