/- StreamRises: a part of the proof. -/
import Derived.Test.YtadfknojfbmjgaaGreatC13
import Derived.Test.YtadfknojfbmjgaaGreatC12
set_option linter.all false
namespace Go.Proofs.YtadfknojfbmjgaaGreat
set_option maxRecDepth 100000
set_option maxHeartbeats 4000000
namespace sx
noncomputable section
open Go Go.RowKit cls syn
variable {s:iy} {i:Int}
def RI (y:Ht):Prop:=let i:=ab y.k.rd;let D:=(ja y).1;let d:=dk y.v.s y.t.pc true;let O:=!(fu y.v.s y.t.pc);let b:=(ja y).2.2;let m:=ab d.us;let N:=aZ y.k.rd [y.t];let n:=ab d.pl;let E:=ab b.rd;let F:=ab (ja y).2.1.pl;let q:=ab (ja y).2.1.us;let G:=ig.mk y.v.p y.v.place y.v.L d;let c:=gt (Ins.mk 0 0 0 []) y.v.p.code y.t.pc.toNat;let H:=qo.mk (fP.mk y.k.w.done y.k.w.c0 y.k.w.c1 y.k.w.c2 y.k.w.c3 y.k.w.c4 y.k.w.c5 y.k.w.c6 y.k.w.c7 y.k.w.c8 y.k.w.c9 []) y.k.rd y.k.e;let A:=Ht.mk G H (Thread.mk c.x y.t.c0 y.t.c1 y.t.c2 y.t.c3 y.t.c4 y.t.c5 y.t.c6 y.t.c7 y.t.c8 y.t.c9);let o:=(ja A).2.1;let a:=(ja A).2.2;let I:=ab o.us;let J:=ab a.rd;let K:=ab o.pl;let j:=Ht.mk (ig.mk y.v.p y.v.place y.v.L o) (qo.mk (fP.mk a.w.done a.w.c0 a.w.c1 a.w.c2 a.w.c3 a.w.c4 a.w.c5 a.w.c6 a.w.c7 a.w.c8 a.w.c9 []) a.rd a.e) (Thread.mk c.y y.t.c0 y.t.c1 y.t.c2 y.t.c3 y.t.c4 y.t.c5 y.t.c6 y.t.c7 y.t.c8 y.t.c9);let f:=(ja j).2.2;let r:=λp:Prop=>aa [y.v.L] p;let u:=λp:Prop=>aa [y.v.p.code] (aa [y.v.p.ah] (aa [y.v.place,ab y.v.L] p));let h:=λp:Prop=>aa [y.v.place] p;let M:Prop:=(y.k.w.done=b.w.done/\y.k.w.c0=b.w.c0/\y.k.w.c1=b.w.c1/\y.k.w.c2=b.w.c2/\y.k.w.c3=b.w.c3/\y.k.w.c4=b.w.c4/\y.k.w.c5=b.w.c5/\y.k.w.c6=b.w.c6/\y.k.w.c7=b.w.c7/\y.k.w.c8=b.w.c8/\y.k.w.c9=b.w.c9/\True);let B:Prop:=(∃z:Thread,an .i64 y.t.pc 1=z.pc/\y.t.c0=z.c0/\y.t.c1=z.c1/\y.t.c2=z.c2/\y.t.c3=z.c3/\y.t.c4=z.c4/\y.t.c5=z.c5/\y.t.c6=z.c6/\y.t.c7=z.c7/\y.t.c8=z.c8/\y.t.c9=z.c9/\aa [y.v.p.code] (aa [y.v.p.ah] (aa [y.v.place,ab y.v.L,n,m] (aa [d.us] (aa [d.pl] (aa [y.v.L] (aa [i] (aa [y.k.e,y.k.w.done] (aa [y.k.w.c0,y.k.w.c1,y.k.w.c2,y.k.w.c3,y.k.w.c4,y.k.w.c5,y.k.w.c6,y.k.w.c7,y.k.w.c8,y.k.w.c9] (aa [y.k.rd] ((Iv (F_ y z)))))))))))));let C:Prop:=(false=D/\u (n=F/\m=q/\d.us=(ja y).2.1.us/\d.pl=(ja y).2.1.pl/\r (i=E/\y.k.e=b.e/\y.k.rd=b.rd/\M)));Iv (XU y.v.s/\y.v.s.us.length<4096)/\aa [y.t.pc] (Tt 1 (aa [ab y.v.s.pl,ab y.v.s.us] (aa [y.v.s.us] (aa [y.v.s.pl] (aa [y.t.pc] (ag O (C) (aC 0 y.t.pc/\ax y.t.pc (ab y.v.p.code)/\aa [y.v.p.code] (aa [y.t.pc,c.op,c.x,c.y] (aa [c.a_] ((ag (az c.op 7) (aa [y.t.c0,y.t.c1,y.t.c2,y.t.c3,y.t.c4,y.t.c5,y.t.c6,y.t.c7,y.t.c8,y.t.c9,y.t.c0,y.t.c1,y.t.c2,y.t.c3,y.t.c4,y.t.c5,y.t.c6,y.t.c7,y.t.c8,y.t.c9] (true=D/\u (n=F/\m=q/\d.us=(ja y).2.1.us/\d.pl=(ja y).2.1.pl/\r (i=E/\y.k.e=b.e/\y.k.rd=b.rd/\true=b.w.done/\y.t.c0=b.w.c0/\y.t.c1=b.w.c1/\y.t.c2=b.w.c2/\y.t.c3=b.w.c3/\y.t.c4=b.w.c4/\y.t.c5=b.w.c5/\y.t.c6=b.w.c6/\y.t.c7=b.w.c7/\y.t.c8=b.w.c8/\y.t.c9=b.w.c9/\True)))) (ag (az c.op 2) (Iv (tB A/\xw A<xw y)/\aa [c.x,y.t.c0,y.t.c1,y.t.c2,y.t.c3,y.t.c4,y.t.c5,y.t.c6,y.t.c7,y.t.c8,y.t.c9,i] (aa [y.k.e] (aa [y.k.rd] (aa [y.k.w.done] (aa [y.k.w.c0,y.k.w.c1,y.k.w.c2,y.k.w.c3,y.k.w.c4,y.k.w.c5,y.k.w.c6,y.k.w.c7,y.k.w.c8,y.k.w.c9] (aa [y.v.p.code] (aa [y.v.p.ah] (aa [y.v.place,ab y.v.L,n,m] (aa [d.us] (aa [d.pl] (aa [y.v.L] (ag (ja A).1 (true=D/\u (K=F/\I=q/\o.us=(ja y).2.1.us/\o.pl=(ja y).2.1.pl/\r (J=E/\a.e=b.e/\a.rd=b.rd/\a.w.done=b.w.done/\a.w.c0=b.w.c0/\a.w.c1=b.w.c1/\a.w.c2=b.w.c2/\a.w.c3=b.w.c3/\a.w.c4=b.w.c4/\a.w.c5=b.w.c5/\a.w.c6=b.w.c6/\a.w.c7=b.w.c7/\a.w.c8=b.w.c8/\a.w.c9=b.w.c9/\True))) (Iv (tB j/\xw j<xw y)/\aa [c.y,y.t.c0,y.t.c1,y.t.c2,y.t.c3,y.t.c4,y.t.c5,y.t.c6,y.t.c7,y.t.c8,y.t.c9,J] (aa [a.e] (aa [a.rd] (aa [a.w.done] (aa [a.w.c0,a.w.c1,a.w.c2,a.w.c3,a.w.c4,a.w.c5,a.w.c6,a.w.c7,a.w.c8,a.w.c9] (aa [y.v.p.code] (aa [y.v.p.ah] (aa [y.v.place,ab y.v.L,K,I] (aa [o.us] (aa [o.pl] (aa [y.v.L] ((ja j).1=D/\u (ab (ja j).2.1.pl=F/\ab (ja j).2.1.us=q/\(ja j).2.1.us=(ja y).2.1.us/\(ja j).2.1.pl=(ja y).2.1.pl/\r (ab f.rd=E/\f.e=b.e/\f.rd=b.rd/\f.w.done=b.w.done/\f.w.c0=b.w.c0/\f.w.c1=b.w.c1/\f.w.c2=b.w.c2/\f.w.c3=b.w.c3/\f.w.c4=b.w.c4/\f.w.c5=b.w.c5/\f.w.c6=b.w.c6/\f.w.c7=b.w.c7/\f.w.c8=b.w.c8/\f.w.c9=b.w.c9/\True)))))))))))))))))))))))))) (ag (az c.op 1) (fits (ab N) 88/\aa [i,y.t.pc,y.t.c0,y.t.c1,y.t.c2,y.t.c3,y.t.c4,y.t.c5,y.t.c6,y.t.c7,y.t.c8,y.t.c9] (false=D/\u (n=F/\m=q/\d.us=(ja y).2.1.us/\d.pl=(ja y).2.1.pl/\r (ab N=E/\y.k.e=b.e/\N=b.rd/\M)))) (ag (az c.op 3) (∃z:Thread,c.x=z.pc/\y.t.c0=z.c0/\y.t.c1=z.c1/\y.t.c2=z.c2/\y.t.c3=z.c3/\y.t.c4=z.c4/\y.t.c5=z.c5/\y.t.c6=z.c6/\y.t.c7=z.c7/\y.t.c8=z.c8/\y.t.c9=z.c9/\aa [y.v.p.code] (aa [y.v.p.ah] (aa [y.v.place,ab y.v.L,n,m] (aa [d.us] (aa [d.pl] (aa [y.v.L] (aa [i] (aa [y.k.e,y.k.w.done] (aa [y.k.w.c0,y.k.w.c1,y.k.w.c2,y.k.w.c3,y.k.w.c4,y.k.w.c5,y.k.w.c6,y.k.w.c7,y.k.w.c8,y.k.w.c9] (aa [y.k.rd] ((Iv (F_ y z))))))))))))) (ag (az c.op 4) (ag (az c.x 9) (h (∃z:Thread,an .i64 y.t.pc 1=z.pc/\y.t.c0=z.c0/\y.t.c1=z.c1/\y.t.c2=z.c2/\y.t.c3=z.c3/\y.t.c4=z.c4/\y.t.c5=z.c5/\y.t.c6=z.c6/\y.t.c7=z.c7/\y.t.c8=z.c8/\y.v.place=z.c9/\aa [y.v.p.code] (aa [y.v.p.ah] (aa [y.v.place,ab y.v.L,n,m] (aa [d.us] (aa [d.pl] (aa [y.v.L] (aa [i] (aa [y.k.e,y.k.w.done] (aa [y.k.w.c0,y.k.w.c1,y.k.w.c2,y.k.w.c3,y.k.w.c4,y.k.w.c5,y.k.w.c6,y.k.w.c7,y.k.w.c8,y.k.w.c9] (aa [y.k.rd] ((Iv (F_ y z)))))))))))))) (ag (az c.x 8) (h (∃z:Thread,an .i64 y.t.pc 1=z.pc/\y.t.c0=z.c0/\y.t.c1=z.c1/\y.t.c2=z.c2/\y.t.c3=z.c3/\y.t.c4=z.c4/\y.t.c5=z.c5/\y.t.c6=z.c6/\y.t.c7=z.c7/\y.v.place=z.c8/\y.t.c9=z.c9/\aa [y.v.p.code] (aa [y.v.p.ah] (aa [y.v.place,ab y.v.L,n,m] (aa [d.us] (aa [d.pl] (aa [y.v.L] (aa [i] (aa [y.k.e,y.k.w.done] (aa [y.k.w.c0,y.k.w.c1,y.k.w.c2,y.k.w.c3,y.k.w.c4,y.k.w.c5,y.k.w.c6,y.k.w.c7,y.k.w.c8,y.k.w.c9] (aa [y.k.rd] ((Iv (F_ y z)))))))))))))) (ag (az c.x 7) (h (∃z:Thread,an .i64 y.t.pc 1=z.pc/\y.t.c0=z.c0/\y.t.c1=z.c1/\y.t.c2=z.c2/\y.t.c3=z.c3/\y.t.c4=z.c4/\y.t.c5=z.c5/\y.t.c6=z.c6/\y.v.place=z.c7/\y.t.c8=z.c8/\y.t.c9=z.c9/\aa [y.v.p.code] (aa [y.v.p.ah] (aa [y.v.place,ab y.v.L,n,m] (aa [d.us] (aa [d.pl] (aa [y.v.L] (aa [i] (aa [y.k.e,y.k.w.done] (aa [y.k.w.c0,y.k.w.c1,y.k.w.c2,y.k.w.c3,y.k.w.c4,y.k.w.c5,y.k.w.c6,y.k.w.c7,y.k.w.c8,y.k.w.c9] (aa [y.k.rd] ((Iv (F_ y z)))))))))))))) (ag (az c.x 6) (h (∃z:Thread,an .i64 y.t.pc 1=z.pc/\y.t.c0=z.c0/\y.t.c1=z.c1/\y.t.c2=z.c2/\y.t.c3=z.c3/\y.t.c4=z.c4/\y.t.c5=z.c5/\y.v.place=z.c6/\y.t.c7=z.c7/\y.t.c8=z.c8/\y.t.c9=z.c9/\aa [y.v.p.code] (aa [y.v.p.ah] (aa [y.v.place,ab y.v.L,n,m] (aa [d.us] (aa [d.pl] (aa [y.v.L] (aa [i] (aa [y.k.e,y.k.w.done] (aa [y.k.w.c0,y.k.w.c1,y.k.w.c2,y.k.w.c3,y.k.w.c4,y.k.w.c5,y.k.w.c6,y.k.w.c7,y.k.w.c8,y.k.w.c9] (aa [y.k.rd] ((Iv (F_ y z)))))))))))))) (ag (az c.x 5) (h (∃z:Thread,an .i64 y.t.pc 1=z.pc/\y.t.c0=z.c0/\y.t.c1=z.c1/\y.t.c2=z.c2/\y.t.c3=z.c3/\y.t.c4=z.c4/\y.v.place=z.c5/\y.t.c6=z.c6/\y.t.c7=z.c7/\y.t.c8=z.c8/\y.t.c9=z.c9/\aa [y.v.p.code] (aa [y.v.p.ah] (aa [y.v.place,ab y.v.L,n,m] (aa [d.us] (aa [d.pl] (aa [y.v.L] (aa [i] (aa [y.k.e,y.k.w.done] (aa [y.k.w.c0,y.k.w.c1,y.k.w.c2,y.k.w.c3,y.k.w.c4,y.k.w.c5,y.k.w.c6,y.k.w.c7,y.k.w.c8,y.k.w.c9] (aa [y.k.rd] ((Iv (F_ y z)))))))))))))) (ag (az c.x 4) (h (∃z:Thread,an .i64 y.t.pc 1=z.pc/\y.t.c0=z.c0/\y.t.c1=z.c1/\y.t.c2=z.c2/\y.t.c3=z.c3/\y.v.place=z.c4/\y.t.c5=z.c5/\y.t.c6=z.c6/\y.t.c7=z.c7/\y.t.c8=z.c8/\y.t.c9=z.c9/\aa [y.v.p.code] (aa [y.v.p.ah] (aa [y.v.place,ab y.v.L,n,m] (aa [d.us] (aa [d.pl] (aa [y.v.L] (aa [i] (aa [y.k.e,y.k.w.done] (aa [y.k.w.c0,y.k.w.c1,y.k.w.c2,y.k.w.c3,y.k.w.c4,y.k.w.c5,y.k.w.c6,y.k.w.c7,y.k.w.c8,y.k.w.c9] (aa [y.k.rd] ((Iv (F_ y z)))))))))))))) (ag (az c.x 3) (h (∃z:Thread,an .i64 y.t.pc 1=z.pc/\y.t.c0=z.c0/\y.t.c1=z.c1/\y.t.c2=z.c2/\y.v.place=z.c3/\y.t.c4=z.c4/\y.t.c5=z.c5/\y.t.c6=z.c6/\y.t.c7=z.c7/\y.t.c8=z.c8/\y.t.c9=z.c9/\aa [y.v.p.code] (aa [y.v.p.ah] (aa [y.v.place,ab y.v.L,n,m] (aa [d.us] (aa [d.pl] (aa [y.v.L] (aa [i] (aa [y.k.e,y.k.w.done] (aa [y.k.w.c0,y.k.w.c1,y.k.w.c2,y.k.w.c3,y.k.w.c4,y.k.w.c5,y.k.w.c6,y.k.w.c7,y.k.w.c8,y.k.w.c9] (aa [y.k.rd] ((Iv (F_ y z)))))))))))))) (ag (az c.x 2) (h (∃z:Thread,an .i64 y.t.pc 1=z.pc/\y.t.c0=z.c0/\y.t.c1=z.c1/\y.v.place=z.c2/\y.t.c3=z.c3/\y.t.c4=z.c4/\y.t.c5=z.c5/\y.t.c6=z.c6/\y.t.c7=z.c7/\y.t.c8=z.c8/\y.t.c9=z.c9/\aa [y.v.p.code] (aa [y.v.p.ah] (aa [y.v.place,ab y.v.L,n,m] (aa [d.us] (aa [d.pl] (aa [y.v.L] (aa [i] (aa [y.k.e,y.k.w.done] (aa [y.k.w.c0,y.k.w.c1,y.k.w.c2,y.k.w.c3,y.k.w.c4,y.k.w.c5,y.k.w.c6,y.k.w.c7,y.k.w.c8,y.k.w.c9] (aa [y.k.rd] ((Iv (F_ y z)))))))))))))) (ag (az c.x 1) (h (∃z:Thread,an .i64 y.t.pc 1=z.pc/\y.t.c0=z.c0/\y.v.place=z.c1/\y.t.c2=z.c2/\y.t.c3=z.c3/\y.t.c4=z.c4/\y.t.c5=z.c5/\y.t.c6=z.c6/\y.t.c7=z.c7/\y.t.c8=z.c8/\y.t.c9=z.c9/\aa [y.v.p.code] (aa [y.v.p.ah] (aa [y.v.place,ab y.v.L,n,m] (aa [d.us] (aa [d.pl] (aa [y.v.L] (aa [i] (aa [y.k.e,y.k.w.done] (aa [y.k.w.c0,y.k.w.c1,y.k.w.c2,y.k.w.c3,y.k.w.c4,y.k.w.c5,y.k.w.c6,y.k.w.c7,y.k.w.c8,y.k.w.c9] (aa [y.k.rd] ((Iv (F_ y z)))))))))))))) (az c.x 0/\h (∃z:Thread,an .i64 y.t.pc 1=z.pc/\y.v.place=z.c0/\y.t.c1=z.c1/\y.t.c2=z.c2/\y.t.c3=z.c3/\y.t.c4=z.c4/\y.t.c5=z.c5/\y.t.c6=z.c6/\y.t.c7=z.c7/\y.t.c8=z.c8/\y.t.c9=z.c9/\aa [y.v.p.code] (aa [y.v.p.ah] (aa [y.v.place,ab y.v.L,n,m] (aa [d.us] (aa [d.pl] (aa [y.v.L] (aa [i] (aa [y.k.e,y.k.w.done] (aa [y.k.w.c0,y.k.w.c1,y.k.w.c2,y.k.w.c3,y.k.w.c4,y.k.w.c5,y.k.w.c6,y.k.w.c7,y.k.w.c8,y.k.w.c9] (aa [y.k.rd] ((Iv (F_ y z))))))))))))))))))))))) (ag (az c.op 5) (ag (ax 0 y.v.place) (C) (B)) (ag (az c.op 6) (ag (!y.k.e) (C) (B)) (B))))))))/\(∀x:Thread,let l:=Ht.mk G H x;let g:=(ja l).2.2;(Iv (F_ y x))->Iv (tB l/\xw l<xw y)/\aa [x.pc,x.c0,x.c1,x.c2,x.c3,x.c4,x.c5,x.c6,x.c7,x.c8,x.c9,i] (aa [y.k.e] (aa [y.k.rd] (aa [y.k.w.done] (aa [y.k.w.c0,y.k.w.c1,y.k.w.c2,y.k.w.c3,y.k.w.c4,y.k.w.c5,y.k.w.c6,y.k.w.c7,y.k.w.c8,y.k.w.c9] (aa [y.v.p.code] (aa [y.v.p.ah] (aa [y.v.place,ab y.v.L,n,m] (aa [d.us] (aa [d.pl] (aa [y.v.L] ((ja l).1=D/\u (ab (ja l).2.1.pl=F/\ab (ja l).2.1.us=q/\(ja l).2.1.us=(ja y).2.1.us/\(ja l).2.1.pl=(ja y).2.1.pl/\r (ab g.rd=E/\g.e=b.e/\g.rd=b.rd/\g.w.done=b.w.done/\g.w.c0=b.w.c0/\g.w.c1=b.w.c1/\g.w.c2=b.w.c2/\g.w.c3=b.w.c3/\g.w.c4=b.w.c4/\g.w.c5=b.w.c5/\g.w.c6=b.w.c6/\g.w.c7=b.w.c7/\g.w.c8=b.w.c8/\g.w.c9=b.w.c9/\True))))))))))))))))))))))))
def Yo:∀y,RI y=QoK y:=λy=>by kernel_rfl
theorem nI:fu s i↔0<=i/\i<s.pl.length/\si s i=false:=by
 grind [fu]
theorem sk:si s i↔0<=i/\i<s.pl.length/\s.pl.getD i.toNat 0<s.us.length/\(s.us.getD (s.pl.getD i.toNat 0).toNat tA).i=i:=by
 grind [si]
theorem RJ (h:∀v∈s.pl,(0:Int)<=v) (i:Nat):0<=s.pl.getD i 0:=by
 rw[Zag];cases e:s.pl[i]? with
 | none=>exact ZaQ 0
 | some v=>exact h v (ZaJ e)
theorem vH (x:Bool) (h:fu s i):dk s i x=⟨s.pl.set i.toNat s.us.length,s.us++[⟨i,x⟩]⟩:=by grind [dk]
theorem has_add (x:Bool) (a:∀v∈s.pl,(0:Int)<=v) (h:fu s i) (j:Int):si (dk s i x) j↔si s j\/j=i:=by
 obtain⟨h1,c,d⟩:=nI.1 h;rw[vH x h,sk,sk];simp only[Zbb,Zab,Zae,Zak];have g:=RJ a j.toNat;by_cases e:j=i
 ·grind
 ·by_cases f:0<=j/\j<s.pl.length
  ·have b:(s.pl.set i.toNat (s.us.length:Int)).getD j.toNat 0=s.pl.getD j.toNat 0:=by
    grind
   grind
  ·omega
theorem nJ (x:Bool):(dk s i x).pl.length=s.pl.length:=by grind [dk]
theorem Yp (x:Bool) (a:∀v∈s.pl,(0:Int)<=v) (h:fu s i) (j:Int):fu (dk s i x) j=(fu s j&&decide (j≠i)):=by
 grind [nI,has_add,dk]
theorem Av (p:Nat->Bool) (a:Nat):∀n,(List.range n).countP (λx=>p x&&decide (x≠a))+(if a<n/\p a=true then 1 else 0)=(List.range n).countP p
 | 0=>by simp
 | n+1=>by
  have b:=Av p a n;grind [List.range_succ]
theorem mW (x:Bool) (b:∀v∈s.pl,(0:Int)<=v) (h:fu s i):cz (dk s i x)+1=cz s:=by
 obtain⟨h1,a,_⟩:=nI.1 h;unfold cz;rw[nJ,<-Av (λi:Nat=>fu s i) i.toNat s.pl.length,Zac ⟨ω,by grind⟩];grind [Yp]
theorem B5 (x:Bool) (hs:B4 s) (h:fu s i):B4 (dk s i x):=by
 obtain⟨h1,f,n,g⟩:=hs;obtain⟨c1,c2,c3⟩:=nI.1 h;have o:=mW x f h;refine⟨by grind [nJ],?_,?_,?_⟩
 ·grind [vH]
 ·grind [vH]
 ·rw[vH x h];intro j k;simp only[Zab,Zae,Zak,Zbb] at k ⊢;by_cases e:j<s.us.length
  ·obtain⟨a,b,c⟩:=g j e;have d:(s.us++[(⟨i,x⟩:Item)]).getD j tA=s.us.getD j tA:=by grind
   rw[d];refine⟨a,b,?_⟩;have l:(s.us.getD j tA).i≠i:=λq=>by
    grind [sk,Int.toNat_natCast]
   rw[Zag,Zc2 ω,<-Zag];exact c
  ·have m:j=s.us.length:=ω;simp_all
structure Yq (s:iy) (k:qo) (r:Bool×iy×qo):Prop where
 i:B4 r.2.1
 l:r.2.1.pl.length=s.pl.length
 rd:r.2.2.rd.length+cz r.2.1<=k.rd.length+cz s
 f:cz r.2.1<=cz s
 th:r.2.2.w.threads=k.w.threads
 e:r.2.2.e=k.e
variable {s:iy}
def Yq.trans {k:qo} {b:Bool} {a:iy} {k1:qo} {r:Bool×iy×qo} (h:Yq s k (b,a,k1)) (g:Yq a k1 r):Yq s k r:=
 ⟨g.i,g.l.trans h.l,Zav g.rd h.rd,Zav g.f h.f,g.th.trans h.th,g.e.trans h.e⟩
theorem vI {k:qo} {i:Int} (b x:Bool) (hs:B4 s) (h:fu s i):Yq s k (b,dk s i x,k):=by
 have a:=mW x hs.2.1 h;exact⟨B5 x hs h,nJ x,by grind,by grind,rfl,rfl⟩
theorem jK (code:List Ins) (place:Int):∀(n:Nat) (s:iy) (k:qo) (t:Thread),B4 s->Yq s k (pV code place n s k t)
 | 0,s,k,t,hs=>⟨hs,rfl,Zah _,Zah _,rfl,rfl⟩
 | n+1,s,k,t,hs=>by
  unfold pV;by_cases h:fu s t.pc=false
  ·rw[Zac h];exact⟨hs,rfl,Zah _,Zah _,rfl,rfl⟩
  ·rw[Zaa h];have c:fu s t.pc:=by grind
   have a:=vI (k:=k) false true hs c;have d:=mW true hs.2.1 c;simp only;have go:∀b,Yq s k (pV code place n (dk s t.pc true) k b):=λb=>a.trans (jK code place n _ k b a.i)
   split
   ·exact⟨a.i,a.l,a.rd,a.f,rfl,rfl⟩
   split
   ·split
    ·exact go _
    ·exact(go { t with pc:=_ }).trans (jK code place n _ _ _ (go _).i)
   split
   ·exact⟨a.i,a.l,by grind,a.f,rfl,rfl⟩
   grind
theorem xx (code:List Ins) (place:Int):∀(n m:Nat) (s:iy) (k:qo) (t:Thread),B4 s->cz s<n->cz s<m->pV code place n s k t=pV code place m s k t
 | 0,_,_,_,_,_,h,_=>by omega
 | _,0,_,_,_,_,_,h=>by omega
 | n+1,m+1,s,k,t,hs,h1,g=>by
  rw[pV,pV];by_cases h:fu s t.pc=false
  ·grind
  ·rw[Zaa h,Zaa h];have d:fu s t.pc:=by grind
   have e:=vI (k:=k) false true hs d;have j:=mW true hs.2.1 d;have go:∀k b,pV code place n (dk s t.pc true) k b=pV code place m (dk s t.pc true) k b:=λk b=>xx code place n m _ k b e.i ω ω
   have go2:∀a c,pV code place n (pV code place m (dk s t.pc true) k a).2.1 (pV code place m (dk s t.pc true) k a).2.2 c=pV code place m (pV code place m (dk s t.pc true) k a).2.1 (pV code place m (dk s t.pc true) k a).2.2 c:=λa c=>by
    have hk:=jK code place m (dk s t.pc true) k a e.i;have:=hk.f;exact xx code place n m _ _ c hk.i ω ω
   simp only[go,go2]
theorem KB {i:Int} {x:Bool} (h:fu s i=false):dk s i x=s:=by grind [dk]
def RK (h:B4 s):XU s/\s.us.length<=1000:=⟨⟨by have:=h.1;omega,by have:=h.1;have:=h.2.2.1;omega,h.2.1⟩,by have:=h.1;have:=h.2.2.1;omega⟩
abbrev Eo (y:Ht) (t:Thread):Ht:=⟨⟨y.v.p,y.v.place,y.v.L,dk y.v.s y.t.pc true⟩,y.k,t⟩
theorem Qb8 {y:Ht} (e:tB y) (h:fu y.v.s y.t.pc) (t:Thread):ja (Eo y t)=pV y.v.p.code y.v.place (cz y.v.s) (dk y.v.s y.t.pc true) y.k t/\tB (Eo y t)/\xw (Eo y t)<xw y:=by
 obtain⟨a,hl,c,f,hw⟩:=e;have d:=mW true a.2.1 h;have b:=vI (k:=y.k) false true a h;refine⟨?_,⟨b.i,by grind [nJ],c,?_,hw⟩,?_⟩
 ·show pV y.v.p.code y.v.place (cz (dk y.v.s y.t.pc true)+1) (dk y.v.s y.t.pc true) y.k t=_
  rw[d]
 ·grind
 ·show cz (dk y.v.s y.t.pc true)<cz y.v.s
  omega
theorem QoL (y:Ht) (G:tB y):RI y:=by
  unfold RI;simp only[QaU,dq,aj,aU,aO,dA,Zad,ZaX,ZaY,ZaZ,Zan,Zao];have F:=G;obtain⟨A,hl,B,V,hw⟩:=G;have hk:(⟨⟨y.k.w.done,y.k.w.c0,y.k.w.c1,y.k.w.c2,y.k.w.c3,y.k.w.c4,y.k.w.c5,y.k.w.c6,y.k.w.c7,y.k.w.c8,y.k.w.c9,[]⟩,y.k.rd,y.k.e⟩:qo)=y.k:=by rw[<-hw]
  obtain⟨H,hu⟩:=RK A;have I:y.v.p.code.length<=1000:=B.1;have b:ja y=pV y.v.p.code y.v.place (cz y.v.s+1) y.v.s y.k y.t:=rfl;simp only[hk];refine⟨⟨H,ω⟩,λh=>?_,λh=>?_⟩
  · grind [pV,KB]
  · obtain⟨c1,c2,c3⟩:=nI.1 h;have J:¬fu y.v.s y.t.pc=false:=by grind
    rw[pV,Zaa J] at b;have E:∀x:Ins,(y.v.p.code.getD y.t.pc.toNat ⟨0,0,0,[]⟩)=x->y.v.p.code.getD y.t.pc.toNat Ym=x:=λx h=>h
    generalize M:y.v.p.code.getD y.t.pc.toNat ⟨0,0,0,[]⟩=x at*
    have E:=E x rfl;simp only[E] at b;refine⟨c1,ω,⟨λd=>?_,λd=>⟨λn=>?_,λn=>⟨λo1=>?_,λo1=>⟨λo=>?_,λo=>⟨λu=>?_,λu=>?_⟩⟩⟩⟩⟩,λt ht=>?_⟩
    · rw[Zac d] at b;rw[b]
      (repeat' apply And.intro)<;>rfl
    · rw[Zaa d,Zac n] at b;obtain⟨Q,R,s3⟩:=Qb8 F h ⟨x.x,y.t.c0,y.t.c1,y.t.c2,y.t.c3,y.t.c4,y.t.c5,y.t.c6,y.t.c7,y.t.c8,y.t.c9⟩;have a:=jK y.v.p.code y.v.place (cz y.v.s) (dk y.v.s y.t.pc true) y.k ⟨x.x,y.t.c0,y.t.c1,y.t.c2,y.t.c3,y.t.c4,y.t.c5,y.t.c6,y.t.c7,y.t.c8,y.t.c9⟩ (B5 true A h);rw[<-Q] at a;have g:ja y=if (ja (Eo y ⟨x.x,y.t.c0,y.t.c1,y.t.c2,y.t.c3,y.t.c4,y.t.c5,y.t.c6,y.t.c7,y.t.c8,y.t.c9⟩)).1=true then ja (Eo y ⟨x.x,y.t.c0,y.t.c1,y.t.c2,y.t.c3,y.t.c4,y.t.c5,y.t.c6,y.t.c7,y.t.c8,y.t.c9⟩)
          else pV y.v.p.code y.v.place (cz y.v.s) (ja (Eo y ⟨x.x,y.t.c0,y.t.c1,y.t.c2,y.t.c3,y.t.c4,y.t.c5,y.t.c6,y.t.c7,y.t.c8,y.t.c9⟩)).2.1 (ja (Eo y ⟨x.x,y.t.c0,y.t.c1,y.t.c2,y.t.c3,y.t.c4,y.t.c5,y.t.c6,y.t.c7,y.t.c8,y.t.c9⟩)).2.2 ⟨x.y,y.t.c0,y.t.c1,y.t.c2,y.t.c3,y.t.c4,y.t.c5,y.t.c6,y.t.c7,y.t.c8,y.t.c9⟩:=by grind
      refine⟨⟨R,s3⟩,?_⟩;generalize ja (Eo y ⟨x.x,y.t.c0,y.t.c1,y.t.c2,y.t.c3,y.t.c4,y.t.c5,y.t.c6,y.t.c7,y.t.c8,y.t.c9⟩)=r at*
      have U:=mW true A.2.1 h;have m:r.2.2.w.threads=[]:=a.th.trans hw;have C:(⟨⟨r.2.2.w.done,r.2.2.w.c0,r.2.2.w.c1,r.2.2.w.c2,r.2.2.w.c3,r.2.2.w.c4,r.2.2.w.c5,r.2.2.w.c6,r.2.2.w.c7,r.2.2.w.c8,r.2.2.w.c9,[]⟩,r.2.2.rd,r.2.2.e⟩:qo)=r.2.2:=by rw[<-m]
      simp only[C];have K:cz r.2.1<=cz (dk y.v.s y.t.pc true):=a.f;have D:cz r.2.1<cz y.v.s:=ω;refine⟨λq=>?_,λq=>?_⟩
      · grind
      · rw[Zaa (by grind)] at g;have e2:ja ⟨⟨y.v.p,y.v.place,y.v.L,r.2.1⟩,r.2.2,⟨x.y,y.t.c0,y.t.c1,y.t.c2,y.t.c3,y.t.c4,y.t.c5,y.t.c6,y.t.c7,y.t.c8,y.t.c9⟩⟩=ja y:=by
          rw[g];exact xx _ _ _ _ _ _ _ a.i (Zbr _) D
        refine⟨⟨⟨a.i,by show r.2.1.pl.length=_;rw[a.l,nJ];exact hl,B,?_,m⟩,?_⟩,?_⟩
        · have:=a.rd;grind
        · assumption
        · grind
    · grind
    · rw[Zaa d,Zaa n,Zaa o1,Zac o] at b;exact⟨⟨x.x,y.t.c0,y.t.c1,y.t.c2,y.t.c3,y.t.c4,y.t.c5,y.t.c6,y.t.c7,y.t.c8,y.t.c9⟩,rfl,rfl,rfl,rfl,rfl,rfl,rfl,rfl,rfl,rfl,rfl,h,b.symm⟩
    · rw[Zaa d,Zaa n,Zaa o1,Zaa o,Zac u] at b;have j:x∈y.v.p.code:=by
        grind
      obtain⟨S,T⟩:=B.2 x j u;have hz:F_ y (Qel ⟨y.t.pc+1,y.t.c0,y.t.c1,y.t.c2,y.t.c3,y.t.c4,y.t.c5,y.t.c6,y.t.c7,y.t.c8,y.t.c9⟩ x.x y.v.place):=⟨h,b.symm⟩;have c:an .i64 y.t.pc 1=y.t.pc+1:=aV ω ω
      repeat' first | apply And.intro | intro _
      all_goals first
        | omega
        | (refine⟨_,?_,?_,?_,?_,?_,?_,?_,?_,?_,?_,?_,hz⟩
           · exact c
           all_goals (unfold Qel;simp only;split<;>first | rfl | omega))
    · rw[Zaa d,Zaa n,Zaa o1,Zaa o,Zaa u] at b;have c:an .i64 y.t.pc 1=y.t.pc+1:=aV ω ω;have N:ja y=pV y.v.p.code y.v.place (cz y.v.s) (dk y.v.s y.t.pc true) y.k ⟨y.t.pc+1,y.t.c0,y.t.c1,y.t.c2,y.t.c3,y.t.c4,y.t.c5,y.t.c6,y.t.c7,y.t.c8,y.t.c9⟩->
          ∃z:Thread,an .i64 y.t.pc 1=z.pc/\y.t.c0=z.c0/\y.t.c1=z.c1/\y.t.c2=z.c2/\y.t.c3=z.c3/\y.t.c4=z.c4/\y.t.c5=z.c5/\y.t.c6=z.c6/\y.t.c7=z.c7/\y.t.c8=z.c8/\y.t.c9=z.c9/\F_ y z:=
        λe=>⟨⟨y.t.pc+1,y.t.c0,y.t.c1,y.t.c2,y.t.c3,y.t.c4,y.t.c5,y.t.c6,y.t.c7,y.t.c8,y.t.c9⟩,c,rfl,rfl,rfl,rfl,rfl,rfl,rfl,rfl,rfl,rfl,h,e.symm⟩
      refine⟨λO=>⟨λp=>?_,λp=>?_⟩,λO=>⟨λP=>⟨λq=>?_,λq=>?_⟩,λP=>?_⟩⟩
      · grind
      · grind
      · grind
      · grind
      · grind
    · obtain⟨_,ht⟩:=ht;grind [Qb8]
def Qif:Ok Hu:=OJ xw Yo QbS QoL
def wkP (a b n:Nat) (y:qo):List (Nat×AO D.E):=[(a,.cells [.ptr b 0,.own n 11 (ab y.rd),.bool y.e] 255 false),
 (b,.cells [.bool y.w.done,.int .i64 y.w.c0,.int .i64 y.w.c1,.int .i64 y.w.c2,.int .i64 y.w.c3,.int .i64 y.w.c4,.int .i64 y.w.c5,.int .i64 y.w.c6,.int .i64 y.w.c7,.int .i64 y.w.c8,.int .i64 y.w.c9,.cF] 158 false),
 (n,.arr 1 y.rd 230 false)]
def KC:fP:=⟨false,0,0,0,0,0,0,0,0,0,0,[]⟩
def sm (code:List Ins) (place:Int):List Thread->iy->qo->iy×qo
 | [],s,k=>(s,k)
 | t::l,s,k=>let r:=pV code place (cz s+1) s k t;if r.1=true then r.2 else sm code place l r.2.1 r.2.2
structure Ep where
 v:ig
 i:Int
 e:Bool
def CY (y:Ep):fP:=y.v.L.getD y.i.toNat KC
def exK (y:Ep):qo:=⟨{ CY y with threads:=[] },[],y.e⟩
def exS (y:Ep):iy:=⟨y.v.s.pl,i_⟩
def bY (y:Ep):iy×qo:=sm y.v.p.code y.v.place (CY y).threads (exS y) (exK y)
def CC (v:ig):Prop:=v.s.pl.length=v.p.code.length/\(∀x∈v.s.pl,(0:Int)<=x)/\Yn v.p.code
def exP (y:Ep):Prop:=CC y.v/\0<=y.i/\y.i<y.v.L.length/\(CY y).threads.length<=1000000
def QoO (a:List (AV D.E)) (s:St D.E):C Ep:=match a with
 | [p,i,e]=>av (Ha p s) λv=>aI (cT i) λ_ i=>aI (yR e) λe _=>.ret ⟨v,i,e⟩
 | _=>.fail
def lsA (w:fP):AV D.E:=.agg [.bool w.done,.int .i64 w.c0,.int .i64 w.c1,.int .i64 w.c2,.int .i64 w.c3,.int .i64 w.c4,.int .i64 w.c5,.int .i64 w.c6,.int .i64 w.c7,.int .i64 w.c8,.int .i64 w.c9,.cF]
def MY:bf D:=⟨135,Ep,QoO,exP,λy=>[.ptr 0 0,Qu9 y.i,.bool y.e],λy=>Eb 0 y.v,λy=>.tuple [lsA (bY y).2.w,.list 1 (bY y).2.rd],λy=>CX 0 5 4 { y.v with s:=(bY y).1 },5,6⟩
def exI (y:Ep) (x:Nat×iy×qo):Prop:=x.1<=(CY y).threads.length/\B4 x.2.1/\x.2.1.pl.length=y.v.p.code.length/\x.2.2.rd.length+cz x.2.1<=1000/\x.2.2.w.threads=[]/\sm y.v.p.code y.v.place ((CY y).threads.drop x.1) x.2.1 x.2.2=bY y
def QoP (y:MY.Y):cH D:=⟨[],[],[(506,⟨Nat×iy×qo,[0,6,7,9,10,34,35],λx=>[(36,Qu9 x.1)],[5],λx=>CX 0 9 4 { Ep.v y with s:=x.2.1 }++wkP 8 7 10 x.2.2,11,exI y,λx=>(CY y).threads.length-x.1⟩)],[],1,[]⟩
def RL (y:Ep):Prop:=let n:=ab y.v.L;let o:=(CY y).threads.length;let q:=ab y.v.s.pl;let r:=ab (bY y).1.pl;let t:=ab (bY y).1.us;let d:=gt (fP.mk false 0 0 0 0 0 0 0 0 0 0 []) y.v.L y.i.toNat;let l:=ab d.threads;let m:=λp:Prop=>aa [y.v.p.code] (aa [y.v.p.ah] (aa [y.v.place,n] p));aC 0 y.i/\ax y.i n/\Iv True/\aa [q,ab y.v.s.us] (aa [y.v.s.us] (aa [y.v.s.pl] ((∃z:Nat×iy×qo,aa [d.threads] (aa [l] (0=(z.1:Int)/\0=ab z.2.2.rd/\y.e=z.2.2.e/\[]=z.2.2.rd/\d.done=z.2.2.w.done/\d.c0=z.2.2.w.c0/\d.c1=z.2.2.w.c1/\d.c2=z.2.2.w.c2/\d.c3=z.2.2.w.c3/\d.c4=z.2.2.w.c4/\d.c5=z.2.2.w.c5/\d.c6=z.2.2.w.c6/\d.c7=z.2.2.w.c7/\d.c8=z.2.2.w.c8/\d.c9=z.2.2.w.c9/\m (q=ab z.2.1.pl/\ab i_=ab z.2.1.us/\i_=z.2.1.us/\y.v.s.pl=z.2.1.pl/\aa [y.v.L] ((Iv (exI y z)))))))/\(∀x:Nat×iy×qo,let k:=(x.1:Int);let u:=ab x.2.1.us;let g:=ab x.2.1.pl;let b:=gt (Thread.mk 0 0 0 0 0 0 0 0 0 0 0) d.threads k.toNat;let c:=Ht.mk (ig.mk y.v.p y.v.place y.v.L x.2.1) (qo.mk (fP.mk x.2.2.w.done x.2.2.w.c0 x.2.2.w.c1 x.2.2.w.c2 x.2.2.w.c3 x.2.2.w.c4 x.2.2.w.c5 x.2.2.w.c6 x.2.2.w.c7 x.2.2.w.c8 x.2.2.w.c9 []) x.2.2.rd x.2.2.e) b;let a:=(ja c).2.2;let h:=ab (ja c).2.1.us;let j:=ab (ja c).2.1.pl;let f:=ab a.rd;(Iv (exI y x))->ag (ax k l) (aC 0 k/\ax k l/\Iv (tB c)/\aa [b.pc,b.c0,b.c1,b.c2,b.c3,b.c4,b.c5,b.c6,b.c7,b.c8,b.c9,ab x.2.2.rd] (aa [x.2.2.e] (aa [x.2.2.rd] (aa [x.2.2.w.done] (aa [x.2.2.w.c0,x.2.2.w.c1,x.2.2.w.c2,x.2.2.w.c3,x.2.2.w.c4,x.2.2.w.c5,x.2.2.w.c6,x.2.2.w.c7,x.2.2.w.c8,x.2.2.w.c9] (aa [y.v.p.code] (aa [y.v.p.ah] (aa [y.v.place,n,g,u] (aa [x.2.1.us] (aa [x.2.1.pl] (aa [y.v.L] (ag (ja c).1 (aa [a.w.done] (aa [a.w.c0,a.w.c1,a.w.c2,a.w.c3,a.w.c4,a.w.c5,a.w.c6,a.w.c7,a.w.c8,a.w.c9,f,f] (a.w.done=(bY y).2.w.done/\a.w.c0=(bY y).2.w.c0/\a.w.c1=(bY y).2.w.c1/\a.w.c2=(bY y).2.w.c2/\a.w.c3=(bY y).2.w.c3/\a.w.c4=(bY y).2.w.c4/\a.w.c5=(bY y).2.w.c5/\a.w.c6=(bY y).2.w.c6/\a.w.c7=(bY y).2.w.c7/\a.w.c8=(bY y).2.w.c8/\a.w.c9=(bY y).2.w.c9/\a.rd=(bY y).2.rd/\m (j=r/\h=t/\(ja c).2.1.us=(bY y).1.us/\(ja c).2.1.pl=(bY y).1.pl/\aa [y.v.L] (True))))) (∃z:Nat×iy×qo,aa [d.threads] (aa [l] (an .i64 k 1=(z.1:Int)/\f=ab z.2.2.rd/\a.e=z.2.2.e/\a.rd=z.2.2.rd/\a.w.done=z.2.2.w.done/\a.w.c0=z.2.2.w.c0/\a.w.c1=z.2.2.w.c1/\a.w.c2=z.2.2.w.c2/\a.w.c3=z.2.2.w.c3/\a.w.c4=z.2.2.w.c4/\a.w.c5=z.2.2.w.c5/\a.w.c6=z.2.2.w.c6/\a.w.c7=z.2.2.w.c7/\a.w.c8=z.2.2.w.c8/\a.w.c9=z.2.2.w.c9/\m (j=ab z.2.1.pl/\h=ab z.2.1.us/\(ja c).2.1.us=z.2.1.us/\(ja c).2.1.pl=z.2.1.pl/\aa [y.v.L] ((Iv (exI y z/\(o-z.1)<(o-x.1)))))))))))))))))))) (aa [x.2.2.w.done] (aa [x.2.2.w.c0,x.2.2.w.c1,x.2.2.w.c2,x.2.2.w.c3,x.2.2.w.c4,x.2.2.w.c5,x.2.2.w.c6,x.2.2.w.c7,x.2.2.w.c8,x.2.2.w.c9,ab x.2.2.rd,ab x.2.2.rd] (x.2.2.w.done=(bY y).2.w.done/\x.2.2.w.c0=(bY y).2.w.c0/\x.2.2.w.c1=(bY y).2.w.c1/\x.2.2.w.c2=(bY y).2.w.c2/\x.2.2.w.c3=(bY y).2.w.c3/\x.2.2.w.c4=(bY y).2.w.c4/\x.2.2.w.c5=(bY y).2.w.c5/\x.2.2.w.c6=(bY y).2.w.c6/\x.2.2.w.c7=(bY y).2.w.c7/\x.2.2.w.c8=(bY y).2.w.c8/\x.2.2.w.c9=(bY y).2.w.c9/\x.2.2.rd=(bY y).2.rd/\m (g=r/\u=t/\x.2.1.us=(bY y).1.us/\x.2.1.pl=(bY y).1.pl/\aa [y.v.L] (True)))))))))
theorem sq {l:List Int} (h:∀v∈l,(0:Int)<=v) (hl:l.length<=1000):B4 ⟨l,i_⟩/\cz ⟨l,i_⟩=l.length:=by
 have a:cz ⟨l,i_⟩=l.length:=by
  unfold cz;rw[List.countP_eq_length.2,List.length_range];intro i hi;rw[List.mem_range] at hi;refine nI.2 ⟨ω,ω,?_⟩;cases e:si ⟨l,i_⟩ i with
  | false=>rfl
  | true=>
   have c:=(sk.1 e).2.2.1;have d:=RJ (s:=⟨l,i_⟩) h (i:Int).toNat;have f:((i_.length:Nat):Int)=0:=rfl;grind
 exact⟨⟨hl,h,by rw[a];exact Za6 _,λj b=>absurd b (Zbo _)⟩,a⟩
theorem QoR (y:Ep) (J:exP y):RL y:=by
 unfold RL;simp only[QaU,dq,aj,dA,Zad];obtain⟨⟨z,A,f⟩,m,n,G⟩:=J;have D:y.v.p.code.length<=1000:=f.1;have F:y.v.L.getD y.i.toNat ⟨false,0,0,0,0,0,0,0,0,0,0,[]⟩=CY y:=rfl;simp only[F];obtain⟨t,E⟩:=sq (l:=y.v.s.pl) A ω;refine⟨m,n,⟨(0,exS y,exK y),rfl,rfl,rfl,rfl,rfl,rfl,rfl,rfl,rfl,rfl,rfl,rfl,rfl,rfl,rfl,rfl,rfl,rfl,rfl,⟨Zaj _,t,z,?_,rfl,rfl⟩⟩,λx I=>?_⟩
 ·show 0+cz ⟨y.v.s.pl,i_⟩<=1000
  omega
 ·obtain⟨k,s,w⟩:=x;obtain⟨h1,h,j,C,g,a⟩:=I;simp only at h1 h j C g a ⊢;have o:(⟨⟨w.w.done,w.w.c0,w.w.c1,w.w.c2,w.w.c3,w.w.c4,w.w.c5,w.w.c6,w.w.c7,w.w.c8,w.w.c9,[]⟩,w.rd,w.e⟩:qo)=w:=by rw[<-g]
  simp only[o];refine⟨λq=>?_,λq=>?_⟩
  ·have d:k<(CY y).threads.length:=ω;have ht:(CY y).threads.getD k ⟨0,0,0,0,0,0,0,0,0,0,0⟩=(CY y).threads[k]:=by grind
   rw[ht];rw[Zaq d] at a;have c:=jK y.v.p.code y.v.place (cz s+1) s w (CY y).threads[k] h;have B:ja ⟨⟨y.v.p,y.v.place,y.v.L,s⟩,w,(CY y).threads[k]⟩=pV y.v.p.code y.v.place (cz s+1) s w (CY y).threads[k]:=rfl;rw[sm] at a;rw[<-B] at a c;refine⟨ω,q,⟨h,j,f,?_,g⟩,?_⟩
   ·grind
   generalize ja ⟨⟨y.v.p,y.v.place,y.v.L,s⟩,w,(CY y).threads[k]⟩=r at*
   have u:r.2.2.w.threads=[]:=c.th.trans g;have H:=c.rd;refine⟨λb=>?_,λb=>?_⟩
   ·grind
   ·rw[Zaa (by grind)] at a;exact⟨(k+1,r.2.1,r.2.2),aV ω ω,rfl,rfl,rfl,rfl,rfl,rfl,rfl,rfl,rfl,rfl,rfl,rfl,rfl,rfl,rfl,rfl,rfl,rfl,⟨d,c.i,c.l.trans j,by grind,u,a⟩,ω⟩
  ·grind [sm]
def Qca:Ok MY:=okZ [QY,Hu] Tryz.f135 QoP ⟨QbT,Qif⟩ QoR
def gJ (v:ig):Nat->iy×List fP
 | 0=>(v.s,[])
 | k+1=>((bY ⟨⟨v.p,v.place,v.L,(gJ v k).1⟩,k,true⟩).1,(gJ v k).2++[(bY ⟨⟨v.p,v.place,v.L,(gJ v k).1⟩,k,true⟩).2.w])
def YB (y:ig):Prop:=CC y/\y.L.length<=1000/\∀l∈y.L,l.threads.length<=1000000
def Er:bf D:=⟨103,ig,MP,YB,λ_=>[.ptr 0 0],Eb 0,λy=>.list 2 (gJ y y.L.length).2,λy=>CX 0 5 4 { y with s:=(gJ y y.L.length).1 },5,6⟩
def Qih (y:Er.Y):cH D:=⟨[],[],[(58,⟨Nat,[0,10,11],λk=>[(3,.grow 2 (gJ y k).2 6),(12,Qu9 k)],[],λk=>CX 0 5 4 { y with s:=(gJ y k).1 }++[(6,.tok 2 158)],7,λk=>k<=List.length (ig.L y),λk=>List.length (ig.L y) -k⟩)],[],1,[]⟩
def Hv (y:ig):Prop:=let b:=y.L.length;let d:=λp:Prop=>aa [y.p.code] (aa [y.p.ah] (aa [y.place,ab y.L] p));(∃z:Nat,aa [ab y.L,ab y.L] ([]=(gJ y z).2/\0=(z:Int)/\d (ab y.s.pl=ab (gJ y z).1.pl/\ab y.s.us=ab (gJ y z).1.us/\y.s.us=(gJ y z).1.us/\y.s.pl=(gJ y z).1.pl/\aa [y.L] ((Iv (z<=b))))))/\(∀x:Nat,let c:=(gJ y x).1;let h:=ax (x:Int) (ab y.L);let e:=ab c.pl;let f:=ab c.us;let a:=Ep.mk (ig.mk y.p y.place y.L c) (x:Int) true;let g:=aZ (gJ y x).2 [fP.mk (bY a).2.w.done (bY a).2.w.c0 (bY a).2.w.c1 (bY a).2.w.c2 (bY a).2.w.c3 (bY a).2.w.c4 (bY a).2.w.c5 (bY a).2.w.c6 (bY a).2.w.c7 (bY a).2.w.c8 (bY a).2.w.c9 []];(Iv (x<=b))->ag h (Iv (exP a)/\aa [(x:Int)] (Tt 1 (aa [y.p.code] (aa [y.p.ah] (aa [y.place,ab y.L,e,f] (aa [c.us] (aa [c.pl] (aa [y.L] (fits (ab g) 112/\∃z:Nat,aa [ab y.L,ab y.L] (g=(gJ y z).2/\an .i64 (x:Int) 1=(z:Int)/\d (ab (bY a).1.pl=ab (gJ y z).1.pl/\ab (bY a).1.us=ab (gJ y z).1.us/\(bY a).1.us=(gJ y z).1.us/\(bY a).1.pl=(gJ y z).1.pl/\aa [y.L] ((Iv (z<=b/\(b-z)<(b-x))))))))))))))) ((gJ y x).2=(gJ y b).2/\d (e=ab (gJ y b).1.pl/\f=ab (gJ y b).1.us/\c.us=(gJ y b).1.us/\c.pl=(gJ y b).1.pl/\aa [y.L] (True))))
theorem xy (code:List Ins) (place:Int):∀(l:List Thread) (s:iy) (k:qo),B4 s->Yq s k (false,sm code place l s k)
 | [],s,k,hs=>⟨hs,rfl,Zah _,Zah _,rfl,rfl⟩
 | t::l,s,k,hs=>by
  have a:=jK code place (cz s+1) s k t hs;rw[sm];split
  ·exact⟨a.i,a.l,a.rd,a.f,a.th,a.e⟩
  ·exact Yq.trans (b:=false) ⟨a.i,a.l,a.rd,a.f,a.th,a.e⟩ (xy code place l _ _ a.i)
def B6 {y:Ep} (h:CC y.v):(bY y).1.pl.length=y.v.p.code.length/\(∀x∈(bY y).1.pl,(0:Int)<=x)/\(bY y).2.rd.length<=1000/\(bY y).2.w.threads=[]:=by
 obtain⟨h1,c,d⟩:=h;have g:y.v.p.code.length<=1000:=d.1;obtain⟨b,e⟩:=sq (l:=y.v.s.pl) c ω;have a:=xy y.v.p.code y.v.place (CY y).threads (exS y) (exK y) b;refine⟨a.l.trans h1,a.i.2.1,?_,a.th⟩;have f:(bY y).2.rd.length+cz (bY y).1<=0+cz ⟨y.v.s.pl,i_⟩:=a.rd;omega
theorem B7 {y:ig} (h:CC y):∀k,CC ⟨y.p,y.place,y.L,(gJ y k).1⟩/\(gJ y k).2.length=k
 | 0=>⟨h,rfl⟩
 | k+1=>by
  have a:=B7 h k;have e:=B6 (y:=⟨⟨y.p,y.place,y.L,(gJ y k).1⟩,k,true⟩) a.1;exact⟨⟨e.1,e.2.1,h.2.2⟩,by grind [gJ]⟩
theorem Qij (y:ig) (e:YB y):Hv y:=by
 unfold Hv;simp only[QaU,dq,aj,aU,aO];obtain⟨d,hl,hs⟩:=e;refine⟨⟨0,rfl,rfl,rfl,rfl,rfl,rfl,Zaj _⟩,λx f=>⟨λk=>?_,λk=>?_⟩⟩
 ·have c:x<y.L.length:=ω;obtain⟨i1,i2⟩:=B7 d x;have b:(CY ⟨⟨y.p,y.place,y.L,(gJ y x).1⟩,x,true⟩).threads.length<=1000000:=by
   show(y.L.getD (x:Int).toNat KC).threads.length<=1000000
   grind
  have hw:=(B6 (y:=⟨⟨y.p,y.place,y.L,(gJ y x).1⟩,x,true⟩) i1).2.2.2;have a:∀w:fP,w.threads=[]->(⟨w.done,w.c0,w.c1,w.c2,w.c3,w.c4,w.c5,w.c6,w.c7,w.c8,w.c9,[]⟩:fP)=w:=λw h=>by rw[<-h]
  simp only[a _ hw];refine⟨⟨i1,by grind,by assumption,b⟩,?_,x+1,rfl,aV ω ω,rfl,rfl,rfl,rfl,ω,ω⟩;grind
 ·grind
def Qem:Ok Er:=okZ [MY] Tryz.f103 Qih Qca Qij
structure KD where
 v:ig
 i:Int
 r:Int
def bx (y:KD):Ep:=⟨y.v,y.i,false⟩
def nxT (t:Thread):Thread:={ t with pc:=t.pc+1 }
def Qik (code:List Ins) (r:Int) (t:Thread):Bool:=hasB (code.getD t.pc.toNat Ym).a_ r
def y6 (code:List Ins) (r:Int):List Thread->iy->List Thread->iy×List Thread
 | [],s,o=>(s,o)
 | t::l,s,o=>if Qik code r t=true then y6 code r l (dk s (t.pc+1) true) (if fu s (t.pc+1)=true then o++[nxT t] else o) else y6 code r l s o
def Ys (y:KD):iy×List Thread:=y6 y.v.p.code y.r (bY (bx y)).2.rd ⟨(bY (bx y)).1.pl,i_⟩ []
def jV (y:KD):Int:=y.v.p.ah.getD y.i.toNat 0
def xz (y:KD):iy×List Thread:=if (bY (bx y)).2.w.done=true then Ys y else(dk (Ys y).1 (jV y) true,if fu (Ys y).1 (jV y)=true then(Ys y).2++[⟨jV y,-1,-1,-1,-1,-1,-1,-1,-1,-1,-1⟩] else(Ys y).2)
def stW (y:KD):fP:={ (bY (bx y)).2.w with threads:=(xz y).2 }
def stP (y:KD):Prop:=exP (bx y)/\y.i<y.v.p.ah.length
def Qil (a:List (AV D.E)) (s:St D.E):C KD:=match a with
 | [p,i,r]=>av (Ha p s) λv=>aI (cT i) λ_ i=>aI (cT r) λ_ r=>.ret ⟨v,i,r⟩
 | _=>.fail
def lsW (b n:Nat) (w:fP) (o:List Thread):List (Nat×AO D.E):=[(b,.cells [.bool w.done,.int .i64 w.c0,.int .i64 w.c1,.int .i64 w.c2,.int .i64 w.c3,.int .i64 w.c4,.int .i64 w.c5,.int .i64 w.c6,.int .i64 w.c7,.int .i64 w.c8,.int .i64 w.c9,.own n 11 (ab o)] 158 false),(n,.arr 1 o 230 false)]
def RN:bf D:=⟨133,KD,Qil,stP,λy=>[.ptr 0 0,Qu9 y.i,.int .i32 y.r],λy=>Eb 0 y.v,λy=>.agg (D.aX 2 (stW y)),λy=>CX 0 5 4 { y.v with s:=(xz y).1 },5,6⟩
def B8 (y:KD) (x:Nat×iy×List Thread):Prop:=x.1<=(bY (bx y)).2.rd.length/\B4 x.2.1/\x.2.1.pl.length=y.v.p.code.length/\x.2.2.length<=x.1/\y6 y.v.p.code y.r ((bY (bx y)).2.rd.drop x.1) x.2.1 x.2.2=Ys y
def QoT (y:RN.Y):cH D:=⟨[],[8,11],[(122,⟨Nat×iy×List Thread,[0,1,2,6,22,23],λx=>[(7,.ptr 7 0),(24,Qu9 x.1)],[5],λx=>CX 0 9 4 { KD.v y with s:=x.2.1 }++lsW 7 10 (bY (bx y)).2.w x.2.2,11,B8 y,λx=>(bY (bx y)).2.rd.length-x.1⟩)],[],1,[]⟩
def RO (y:KD):Prop:=let b:=Ep.mk y.v y.i false;let D:=ab (xz y).1.us;let q:=(bY (bx y)).2.rd.length;let G:=!(bY (bx y)).2.w.done;let E:=ab (xz y).1.pl;let H:=ab (bY b).1.us;let F:=ab (bY b).1.pl;let C:=ab (bY b).2.rd;let o:=gt 0 y.v.p.ah y.i.toNat;let A:=λp:Prop=>aa [(bY (bx y)).2.w.done] (aa [(bY (bx y)).2.w.c0,(bY (bx y)).2.w.c1,(bY (bx y)).2.w.c2,(bY (bx y)).2.w.c3,(bY (bx y)).2.w.c4,(bY (bx y)).2.w.c5,(bY (bx y)).2.w.c6,(bY (bx y)).2.w.c7,(bY (bx y)).2.w.c8,(bY (bx y)).2.w.c9] p);let e:=λp:Prop=>aa [y.v.L] p;let m:=λp:Prop=>aa [y.i,y.r] (aa [(bY b).2.rd] (aa [C] p));let f:=λp:Prop=>aa [y.v.p.code] (aa [y.v.p.ah] (aa [y.v.place,ab y.v.L] p));Iv (exP b)/\aa [y.i] (false=false/\aa [y.v.p.code] (aa [y.v.p.ah] (aa [y.v.place,ab y.v.L,ab y.v.s.pl,ab y.v.s.us] (aa [y.v.s.us] (aa [y.v.s.pl] (aa [y.v.L] (Iv True/\aa [F,H] (aa [(bY b).1.us] (aa [(bY b).1.pl] ((∃z:Nat×iy×(List Thread),m (0=(z.1:Int)/\(bY b).2.w.done=(bY (bx y)).2.w.done/\(bY b).2.w.c0=(bY (bx y)).2.w.c0/\(bY b).2.w.c1=(bY (bx y)).2.w.c1/\(bY b).2.w.c2=(bY (bx y)).2.w.c2/\(bY b).2.w.c3=(bY (bx y)).2.w.c3/\(bY b).2.w.c4=(bY (bx y)).2.w.c4/\(bY b).2.w.c5=(bY (bx y)).2.w.c5/\(bY b).2.w.c6=(bY (bx y)).2.w.c6/\(bY b).2.w.c7=(bY (bx y)).2.w.c7/\(bY b).2.w.c8=(bY (bx y)).2.w.c8/\(bY b).2.w.c9=(bY (bx y)).2.w.c9/\0=ab z.2.2/\[]=z.2.2/\f (F=ab z.2.1.pl/\ab i_=ab z.2.1.us/\i_=z.2.1.us/\(bY b).1.pl=z.2.1.pl/\e ((Iv (B8 y z))))))/\(∀x:Nat×iy×(List Thread),let d:=(x.1:Int);let g:=ab x.2.2;let h:=ab x.2.1.pl;let j:=ab x.2.1.us;let k:=dk x.2.1 o true;let a:=gt (Thread.mk 0 0 0 0 0 0 0 0 0 0 0) (bY b).2.rd d.toNat;let l:=an .i64 a.pc 1;let c:=dk x.2.1 l true;let t:=aZ x.2.2 [Thread.mk o (-1) (-1) (-1) (-1) (-1) (-1) (-1) (-1) (-1) (-1)];let B:=hasB (gt (Ins.mk 0 0 0 []) y.v.p.code a.pc.toNat).a_ y.r;let n:=aZ x.2.2 [Thread.mk l a.c0 a.c1 a.c2 a.c3 a.c4 a.c5 a.c6 a.c7 a.c8 a.c9];let u:Prop:=(f (ab k.pl=E/\ab k.us=D/\k.us=(xz y).1.us/\k.pl=(xz y).1.pl/\e (True)));(Iv (B8 y x))->ag (ax d C) (aC 0 d/\ax d C/\aC 0 a.pc/\ax a.pc (ab y.v.p.code)/\Iv True/\aa [(gt (Ins.mk 0 0 0 []) y.v.p.code a.pc.toNat).a_] (aa [y.r] (ag B (Iv (XU x.2.1/\x.2.1.us.length<4096)/\aa [l] (Tt 1 (aa [h,j] (aa [x.2.1.us] (aa [x.2.1.pl] (aa [y.v.p.code] (aa [a.pc] (aa [(gt (Ins.mk 0 0 0 []) y.v.p.code a.pc.toNat).a_] (aa [a.pc] (ag (fu x.2.1 l) (fits (ab n) 88/\∃z:Nat×iy×(List Thread),m (an .i64 d 1=(z.1:Int)/\A (ab n=ab z.2.2/\n=z.2.2/\f (ab c.pl=ab z.2.1.pl/\ab c.us=ab z.2.1.us/\c.us=z.2.1.us/\c.pl=z.2.1.pl/\e ((Iv (B8 y z/\(q-z.1)<(q-x.1)))))))) (∃z:Nat×iy×(List Thread),m (an .i64 d 1=(z.1:Int)/\A (g=ab z.2.2/\x.2.2=z.2.2/\f (ab c.pl=ab z.2.1.pl/\ab c.us=ab z.2.1.us/\c.us=z.2.1.us/\c.pl=z.2.1.pl/\e ((Iv (B8 y z/\(q-z.1)<(q-x.1)))))))))))))))))) (aa [y.v.p.code] (aa [a.pc] (aa [(gt (Ins.mk 0 0 0 []) y.v.p.code a.pc.toNat).a_] (∃z:Nat×iy×(List Thread),m (an .i64 d 1=(z.1:Int)/\A (g=ab z.2.2/\x.2.2=z.2.2/\f (h=ab z.2.1.pl/\j=ab z.2.1.us/\x.2.1.us=z.2.1.us/\x.2.1.pl=z.2.1.pl/\e ((Iv (B8 y z/\(q-z.1)<(q-x.1)))))))))))))) (ag G (aC 0 y.i/\ax y.i (ab y.v.p.ah)/\Iv (XU x.2.1/\x.2.1.us.length<4096)/\aa [o] (Tt 1 (aa [h,j] (aa [x.2.1.us] (aa [x.2.1.pl] (aa [(bY (bx y)).2.w.done] (aa [y.v.p.ah] (aa [o] (ag (fu x.2.1 o) (aC 0 y.i/\ax y.i (ab y.v.p.ah)/\Iv True/\fits (ab t) 88/\aa [g,g] (aa [y.v.p.ah,y.v.p.ah] (aa [o,o] (aa [(bY (bx y)).2.w.done] (aa [(bY (bx y)).2.w.c0,(bY (bx y)).2.w.c1,(bY (bx y)).2.w.c2,(bY (bx y)).2.w.c3,(bY (bx y)).2.w.c4,(bY (bx y)).2.w.c5,(bY (bx y)).2.w.c6,(bY (bx y)).2.w.c7,(bY (bx y)).2.w.c8,(bY (bx y)).2.w.c9] (t=(xz y).2/\u)))))) (A (x.2.2=(xz y).2/\u))))))))))) (aa [(bY (bx y)).2.w.done,(bY (bx y)).2.w.done] (aa [(bY (bx y)).2.w.c0,(bY (bx y)).2.w.c1,(bY (bx y)).2.w.c2,(bY (bx y)).2.w.c3,(bY (bx y)).2.w.c4,(bY (bx y)).2.w.c5,(bY (bx y)).2.w.c6,(bY (bx y)).2.w.c7,(bY (bx y)).2.w.c8,(bY (bx y)).2.w.c9] (x.2.2=(xz y).2/\f (h=E/\j=D/\x.2.1.us=(xz y).1.us/\x.2.1.pl=(xz y).1.pl/\e (True)))))))))))))))))
def rdI (n:Nat) (l:List Thread):Prop:=∀t∈l,0<=t.pc/\t.pc<n
theorem Hw (code:List Ins) (place:Int) (N:Nat):∀(n:Nat) (s:iy) (k:qo) (t:Thread),s.pl.length=N->B4 s->rdI N k.rd->rdI N (pV code place n s k t).2.2.rd
 | 0,s,k,t,_,_,h=>h
 | n+1,s,k,t,e,hs,h=>by
  unfold pV;by_cases f:fu s t.pc=false
  ·grind
  ·rw[Zaa f];have d:fu s t.pc:=by grind
   have c:=vI (k:=k) false true hs d;have hl:(dk s t.pc true).pl.length=N:=(nJ true).trans e;have go:∀a,rdI N (pV code place n (dk s t.pc true) k a).2.2.rd:=λa=>Hw code place N n _ k a hl c.i h
   simp only;split
   ·exact h
   split
   ·split
    ·exact go _
    ·have b:=jK code place n (dk s t.pc true) k { t with pc:=(code.getD t.pc.toNat Ym).x } c.i;exact Hw code place N n _ _ _ (b.l.trans hl) b.i (go _)
   split
   ·intro u hu;rcases Zax.1 hu with q | q
    ·exact h u q
    ·grind [nI]
   grind
theorem Es (code:List Ins) (place:Int) (N:Nat):∀(l:List Thread) (s:iy) (k:qo),s.pl.length=N->B4 s->rdI N k.rd->rdI N (sm code place l s k).2.rd
 | [],s,k,_,_,h=>h
 | t::l,s,k,hN,hs,h=>by
  have a:=jK code place (cz s+1) s k t hs;have b:=Hw code place N (cz s+1) s k t hN hs h;rw[sm];split
  ·exact b
  ·exact Es code place N l _ _ (a.l.trans hN) a.i b
def Qeo {y:Ep} (h:CC y.v):rdI y.v.p.code.length (bY y).2.rd:=by
 obtain⟨h1,b,c⟩:=h;have d:y.v.p.code.length<=1000:=c.1;obtain⟨a,_⟩:=sq (l:=y.v.s.pl) b ω;exact Es _ _ _ _ _ _ h1 a λt ht=>nomatch ht
theorem tn {s:iy} (i:Int) (x:Bool) (hs:B4 s):B4 (dk s i x)/\(dk s i x).pl.length=s.pl.length:=by
 grind [nJ,KB,B5]
theorem tp (code:List Ins) (r:Int):∀(l:List Thread) (s:iy) (o:List Thread),B4 s->B4 (y6 code r l s o).1/\(y6 code r l s o).1.pl.length=s.pl.length/\(y6 code r l s o).2.length<=o.length+l.length
 | [],s,o,hs=>⟨hs,rfl,Zah _⟩
 | t::l,s,o,hs=>by
  rw[y6];split
  ·obtain⟨a,a2⟩:=tn (t.pc+1) true hs;obtain⟨b1,b,c⟩:=tp code r l (dk s (t.pc+1) true) (if fu s (t.pc+1)=true then o++[nxT t] else o) a;grind
  ·obtain⟨b1,b,c⟩:=tp code r l s o hs;grind
theorem QoV (y:KD) (M:stP y):RO y:=by
 unfold RO;simp only[QaU,dq,aj,aU,aO,dA,Zad,Zan,Zao];obtain⟨C,m⟩:=M;have z:=C;obtain⟨n,a,J,K⟩:=C;replace n:CC y.v:=n;replace a:0<=y.i:=a;obtain⟨q,e2,O,P⟩:=B6 (y:=bx y) n;have f:=Qeo (y:=bx y) n;have H:y.v.p.code.length<=1000:=n.2.2.1;replace q:(bY (bx y)).1.pl.length=y.v.p.code.length:=q;replace f:rdI y.v.p.code.length (bY (bx y)).2.rd:=f;obtain⟨e,I⟩:=sq (l:=(bY (bx y)).1.pl) e2 ω;have L:(⟨y.v,y.i,false⟩:Ep)=bx y:=rfl;simp only[L];have F:y.v.p.ah.getD y.i.toNat 0=jV y:=rfl;simp only[F];refine⟨z,⟨(0,⟨(bY (bx y)).1.pl,i_⟩,[]),?_⟩,λx E=>⟨λk=>?_,λk=>?_⟩⟩
 ·repeat' apply And.intro
  all_goals first | exact trivial | rfl | exact Zaj _ | exact e.1 | exact e.2.1 | exact e.2.2.1 | exact e.2.2.2 | exact q
 ·obtain⟨i,s,o⟩:=x;obtain⟨h1,g,u,w,h⟩:=E;simp only at h1 g u w h k ⊢;have j:i<(bY (bx y)).2.rd.length:=ω;have ht:(bY (bx y)).2.rd.getD i ⟨0,0,0,0,0,0,0,0,0,0,0⟩=(bY (bx y)).2.rd[i]:=by grind
  rw[Zaq j,y6] at h;have D:=f _ (Zas j);simp only[ht];generalize (bY (bx y)).2.rd[i]=t at*
  have B:an .i64 t.pc 1=t.pc+1:=aV ω ω;simp only[B];obtain⟨A,hu⟩:=RK g;obtain⟨N,a2⟩:=tn (t.pc+1) true g;have G:hasB (y.v.p.code.getD t.pc.toNat ⟨0,0,0,[]⟩).a_ y.r=Qik y.v.p.code y.r t:=rfl;simp only[G];refine⟨ω,k,D.1,D.2,λb=>⟨⟨A,ω⟩,λc=>⟨?_,(i+1,dk s (t.pc+1) true,o++[nxT t]),?_⟩,λc=>⟨(i+1,dk s (t.pc+1) true,o),?_⟩⟩,λb=>⟨(i+1,s,o),?_⟩⟩
  ·grind
  ·grind [B8,nxT]
  ·grind [B8]
  ·grind [B8]
 ·obtain⟨i,s,o⟩:=x;obtain⟨h1,g,u,w,h⟩:=E;simp only at h1 g u w h k ⊢;have hi:i=(bY (bx y)).2.rd.length:=ω;rw[hi,ZbH,y6] at h;obtain⟨A,hu⟩:=RK g;refine⟨λd=>⟨a,m,⟨A,ω⟩,λc=>⟨a,m,?_,?_⟩,λc=>?_⟩,λd=>?_⟩
  ·grind
  all_goals grind [xz]
def Qim:Ok RN:=okZ [MY,QY,QX,Hi,Q3] Tryz.f133 QoT ⟨Qca,QbT,QbS,Qh4,QbY⟩ QoV
def iJ (v:ig) (r:Int):Nat->ig
 | 0=>v
 | k+1=>⟨v.p,v.place,(iJ v r k).L.set k (stW ⟨iJ v r k,k,r⟩),(xz ⟨iJ v r k,k,r⟩).1⟩
structure W0 where
 v:ig
 r:Int
 n:Int
def Yu (n:Int):Int:=fN (imax n 0) 4
def rnF (y:W0):ig:={ iJ y.v y.r y.v.L.length with place:=y.v.place+Yu y.n }
def rnP (y:W0):Prop:=YB y.v/\y.v.p.ah.length=y.v.L.length/\0<=y.v.place/\y.v.place<=1000000000000
def RP:bf D:=⟨98,W0,λa s=>match a with
 | [p,r,n]=>av (Ha p s) λv=>aI (cT r) λ_ r=>aI (cT n) λ_ n=>.ret ⟨v,r,n⟩
 | _=>.fail,rnP,λy=>[.ptr 0 0,.int .i32 y.r,Qu9 y.n],λy=>Eb 0 y.v,λ_=>.tuple [],λy=>CX 0 5 4 (rnF y),5,6⟩
def QoX (y:RP.Y):cH D:=⟨[],[],[(10,⟨Nat,[0,1,2,11],λk=>[(12,Qu9 k)],[],λk=>CX 0 5 4 (iJ (W0.v y) (W0.r y) k),6,λk=>k<=List.length (ig.L (W0.v y)),λk=>List.length (ig.L (W0.v y)) -k⟩)],[],1,[]⟩
def RQ (y:W0):Prop:=let h:=ab y.v.L;let f:=y.v.L.length;let e:=iJ y.v y.r f;(∃z:Nat,let c:=iJ y.v y.r z;aa [y.r,y.n,h] (0=(z:Int)/\y.v.p.code=c.p.code/\y.v.p.ah=c.p.ah/\y.v.place=c.place/\h=ab c.L/\ab y.v.s.pl=ab c.s.pl/\ab y.v.s.us=ab c.s.us/\y.v.s.us=c.s.us/\y.v.s.pl=c.s.pl/\y.v.L=c.L/\(Iv (z<=f))))/\(∀x:Nat,let a:=iJ y.v y.r x;let g:=ab a.L;let i:=ab a.s.us;let j:=ab a.s.pl;let b:=KD.mk a (x:Int) y.r;(Iv (x<=f))->ag (ax (x:Int) h) (Iv (stP b)/\aa [(x:Int),y.r] (aa [a.p.code] (aa [a.p.ah] (aa [a.place,g,j,i] (aa [a.s.us] (aa [a.s.pl] (aa [a.L] (aC 0 (x:Int)/\ax (x:Int) g/\aa [g,g] (∃z:Nat,let d:=iJ y.v y.r z;aa [y.r,y.n,h] (an .i64 (x:Int) 1=(z:Int)/\a.p.code=d.p.code/\a.p.ah=d.p.ah/\a.place=d.place/\g=ab d.L/\ab (xz b).1.pl=ab d.s.pl/\ab (xz b).1.us=ab d.s.us/\(xz b).1.us=d.s.us/\(xz b).1.pl=d.s.pl/\cA a.L (x:Int).toNat (fP.mk (bY (bx b)).2.w.done (bY (bx b)).2.w.c0 (bY (bx b)).2.w.c1 (bY (bx b)).2.w.c2 (bY (bx b)).2.w.c3 (bY (bx b)).2.w.c4 (bY (bx b)).2.w.c5 (bY (bx b)).2.w.c6 (bY (bx b)).2.w.c7 (bY (bx b)).2.w.c8 (bY (bx b)).2.w.c9 (xz b).2)=d.L/\(Iv (z<=f/\(f-z)<(f-x))))))))))))) (a.p.code=e.p.code/\a.p.ah=e.p.ah/\an .i64 a.place (fN (imax y.n 0) 4)=(y.v.place+Yu y.n)/\g=ab e.L/\j=ab e.s.pl/\i=ab e.s.us/\a.s.us=e.s.us/\a.s.pl=e.s.pl/\a.L=e.L/\True))
theorem Qep {y:KD} (h:CC y.v):(xz y).1.pl.length=y.v.p.code.length/\(∀x∈(xz y).1.pl,(0:Int)<=x)/\(xz y).2.length<=1001:=by
 obtain⟨a,e2,f,g⟩:=B6 (y:=bx y) h;have d:y.v.p.code.length<=1000:=h.2.2.1;replace a:(bY (bx y)).1.pl.length=y.v.p.code.length:=a;obtain⟨b,e⟩:=sq (l:=(bY (bx y)).1.pl) e2 ω;obtain⟨g1,g2,g3⟩:=tp y.v.p.code y.r (bY (bx y)).2.rd ⟨(bY (bx y)).1.pl,i_⟩ [] b;replace g2:(Ys y).1.pl.length=y.v.p.code.length:=Eq.trans g2 a;replace g1:B4 (Ys y).1:=g1;replace g3:(Ys y).2.length<=0+(bY (bx y)).2.rd.length:=g3;obtain⟨c,a2⟩:=tn (jV y) true g1;unfold xz;split
 ·exact⟨g2,g1.2.1,ω⟩
 ·refine⟨a2.trans g2,c.2.1,?_⟩;grind
theorem pW {v:ig} (r:Int) (h:YB v):∀k,YB (iJ v r k)/\(iJ v r k).p=v.p/\(iJ v r k).place=v.place/\(iJ v r k).L.length=v.L.length
 | 0=>⟨h,rfl,rfl,rfl⟩
 | k+1=>by
  obtain⟨⟨i1,i2,i3⟩,a,b,c⟩:=pW r h k;have e:=Qep (y:=⟨iJ v r k,k,r⟩) i1;have hl:((iJ v r k).L.set k (stW ⟨iJ v r k,k,r⟩)).length=v.L.length:=by grind
  refine⟨⟨⟨e.1.trans (by grind [iJ]),e.2.1,h.1.2.2⟩,by show(List.set _ _ _).length<=1000;rw[hl];exact h.2.1,λl hl=>?_⟩,rfl,rfl,hl⟩;rcases Zb1 hl with q | q
  ·grind
  ·rw[q];have:=e.2.2;show(xz ⟨iJ v r k,k,r⟩).2.length<=1000000
   omega
theorem QoZ (y:W0) (i:rnP y):RQ y:=by
 unfold RQ;simp only[QaU,dq,aj,cA,Zad];obtain⟨c,hs,g,h⟩:=i;have hl:y.v.L.length<=1000:=c.2.1;refine⟨⟨0,rfl,rfl,rfl,rfl,rfl,rfl,rfl,rfl,rfl,rfl,Zaj _⟩,λx l=>⟨λk=>?_,λk=>?_⟩⟩
 ·obtain⟨⟨i1,i2,i3⟩,d,j,m⟩:=pW y.r c x;have e:x<(iJ y.v y.r x).L.length:=ω;have b:(CY (bx ⟨iJ y.v y.r x,x,y.r⟩)).threads.length<=1000000:=by
   show((iJ y.v y.r x).L.getD (x:Int).toNat KC).threads.length<=1000000
   grind
  have a:stP ⟨iJ y.v y.r x,x,y.r⟩:=⟨⟨i1,by show(0:Int)<=(x:Int);omega,by show(x:Int)<((iJ y.v y.r x).L.length:Int);omega,b⟩,by grind⟩;have f:(iJ y.v y.r (x+1)).L.length=(iJ y.v y.r x).L.length:=by grind [pW]
  refine⟨a,ω,ω,x+1,aV ω ω,?_⟩;have hz:x+1<=y.v.L.length/\y.v.L.length-(x+1)<y.v.L.length-x:=⟨ω,ω⟩
  repeat' first | exact hz | apply And.intro
  all_goals first | rfl | exact ZaR jW.code d | exact ZaR jW.ah d | exact j | (rw[f]) | skip
 ·grind [pW,Yu,fN,imax]
def Qio:Ok RP:=okZ [RN] Tryz.f98 QoX Qim QoZ
def Et (l:List fP):Prop:=l.length<=1000/\∀x∈l,x.threads.length<=1000000
def lsO (n:Nat) (l:List fP):Nat×AO D.E:=(n,.arr 2 l 158 false)
def RR (y:ig):ig:=⟨y.p,0,rE,⟨uP y.p.code.length,i_⟩⟩
def Yw:bf D:=⟨104,ig,MP,λy=>y.p.code.length<=4096/\y.p.ah.length<=1000,λ_=>[.ptr 0 0],Eb 0,λ_=>.ptr 5 0,λy=>Eb 0 y++CX 5 8 10 (Q5 (RR y) y.p.ah.length),5,11⟩
def MZ:bf D:=⟨128,List fP,λa s=>match a with
 | [l]=>av (rowsOf D s 2 l) λl=>.ret (l:List fP)
 | _=>.fail,Et,λy=>[.own 0 12 (ab y)],λy=>[lsO 0 y],λy=>.own 1 12 (ab y),λy=>[lsO 0 y,lsO 1 y],1,2⟩
def Qo1 (y:MZ.Y):cH D:=⟨[],[6],[(58,⟨Nat,[6,7],λk=>[(3,.own 1 12 (ab (List.take k (y:List fP)))),(8,Qu9 k)],[0],λk=>[lsO 1 (List.take k (y:List fP))],2,λk=>k<=List.length (y:List fP),λk=>List.length (y:List fP) -k⟩)],[],1,[]⟩
def Yx:bf D:=⟨101,ig,MP,λy=>y.p.code.length<=4096/\Et y.L,λ_=>[.ptr 0 0],Eb 0,λ_=>.ptr 5 0,λy=>Eb 0 y++CX 5 8 10 { RR y with place:=y.place,L:=y.L },5,11⟩
def Qcc (y:ig):Prop:=let b:=y.p.ah.length;let a:=uP (y.p.code.length:Int);let c:=ab (rE++List.map iS (List.take b y.p.ah));Iv (y.p.code.length<=4096)/\aa [y.p.code] (aa [y.p.ah] (aa [y.place,ab y.L,ab y.s.pl,ab y.s.us] (aa [y.s.us] (aa [y.s.pl] (aa [y.L] (Iv ((b+rE.length)<=1000000)/\aa [y.p.code] (aa [y.p.ah] (aa ([0,ab rE,ab a,ab i_]:List Int) (aa [i_] (aa [a] (aa [rE] (aa [y.p.code] (aa [y.p.ah] (aa ([0,c,ab a,ab i_]:List Int) (aa [i_] (aa [a] (aa [rE++List.map iS (List.take b y.p.ah)] (aa [y.p.code] (aa [y.p.ah] (aa [y.place,ab y.L,ab y.s.pl,ab y.s.us] (aa [y.s.pl] (aa [y.s.us] (aa [y.L] (True))))))))))))))))))))))))
def RS (y:List fP):Prop:=(∃z:Nat,aa [ab y,ab y] (0=ab (List.take z y)/\0=(z:Int)/\[]=List.take z y/\aa [y] ((Iv (z<=y.length)))))/\(∀x:Nat,let a:=y.length;let b:=List.take x y;let d:=ax (x:Int) (ab y);let c:=gt (fP.mk false 0 0 0 0 0 0 0 0 0 0 []) y (x:Int).toNat;let e:=ab (aZ b [c]);(Iv (x<=a))->ag d (aC 0 (x:Int)/\d/\fits (ab c.threads) 88/\fits e 112/\∃z:Nat,aa [ab y,ab y] (e=ab (List.take z y)/\an .i64 (x:Int) 1=(z:Int)/\aZ b [c]=List.take z y/\aa [y] ((Iv (z<=a/\(a-z)<(a-x)))))) (ab b=ab y/\b=y/\aa [y] (True)))
def Qcd (y:ig):Prop:=let a:=uP (y.p.code.length:Int);Iv (y.p.code.length<=4096)/\aa [y.p.code] (aa [y.p.ah] (aa [y.place,ab y.L,ab y.s.pl,ab y.s.us] (aa [y.s.us] (aa [y.s.pl] (aa [y.L] (Iv (Et y.L)/\aa [ab y.L] (aa [y.L] (aa [y.place,y.place,ab y.L] (aa [y.p.code] (aa [y.p.ah] (aa [y.place,ab y.L,ab a,ab i_] (aa [i_] (aa [a] (aa [y.L] (aa [y.p.code] (aa [y.p.ah] (aa [y.place,ab y.L,ab y.s.pl,ab y.s.us] (aa [y.s.pl] (aa [y.s.us] (aa [y.L] (True)))))))))))))))))))))
end
end sx
end Go.Proofs.YtadfknojfbmjgaaGreat
