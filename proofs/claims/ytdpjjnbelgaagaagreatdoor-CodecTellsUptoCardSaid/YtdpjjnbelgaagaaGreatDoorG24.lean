/- pkg.Same. Conditions: as each theorem names them. -/
import Derived.Test.YtdpjjnbelgaagaaGreatDoorG18
namespace Go.Proofs.YtdpjjnbelgaagaaGreatDoor
set_option maxHeartbeats 32000000
open Go.ChangeShapes Go.WideShapes Go.ChangeAt Go.RowKit Go.Deep
set_option maxRecDepth 100000
theorem Po (p q:Aq) (rp rq:AE) (w:World) (hp:Ah Ai w p rp) (hq:Ah Ai w q rq) (e0:p.name.toList=q.name.toList) (e1:p.ep=q.ep) (e2:p.ver.toList=q.ver.toList) (e3:p.rel.toList=q.rel.toList) (e4:p.arch=q.arch) (e5:p.vendor.toList=q.vendor.toList):Calls Tryz.prog 51 #[p.val rp,q.val rq] w fun e w'=>e= .returned (.bool (Ak p q))∧Below w.heap.size w w':=by
 rcases p with ⟨pnm,pep,pve,pre,par,pvd,pl0,pl1,pl2,pl3,pl4,pl5,pl6,pl7,pl8⟩
 rcases q with ⟨qnm,qep,qve,qre,qar,qvd,ql0,ql1,ql2,ql3,ql4,ql5,ql6,ql7,ql8⟩
 rcases rp with ⟨u0,u1,u2,u3,u4,u5,u6,u7,u8⟩
 rcases rq with ⟨v0,v1,v2,v3,v4,v5,v6,v7,v8⟩
 dsimp only at e0 e1 e2 e3 e4 e5
 obtain⟨a0,ac0,(rfl:u0=_)⟩:=hp.prov.form
 obtain⟨b0,bc0,(rfl:v0=_)⟩:=hq.prov.form
 obtain⟨a1,ac1,(rfl:u1=_)⟩:=hp.req.form
 obtain⟨b1,bc1,(rfl:v1=_)⟩:=hq.req.form
 obtain⟨a2,ac2,(rfl:u2=_)⟩:=hp.con.form
 obtain⟨b2,bc2,(rfl:v2=_)⟩:=hq.con.form
 obtain⟨a3,ac3,(rfl:u3=_)⟩:=hp.obs.form
 obtain⟨b3,bc3,(rfl:v3=_)⟩:=hq.obs.form
 obtain⟨a4,ac4,(rfl:u4=_)⟩:=hp.reco.form
 obtain⟨b4,bc4,(rfl:v4=_)⟩:=hq.reco.form
 obtain⟨a5,ac5,(rfl:u5=_)⟩:=hp.sup.form
 obtain⟨b5,bc5,(rfl:v5=_)⟩:=hq.sup.form
 obtain⟨a6,ac6,(rfl:u6=_)⟩:=hp.sug.form
 obtain⟨b6,bc6,(rfl:v6=_)⟩:=hq.sug.form
 obtain⟨a7,ac7,(rfl:u7=_)⟩:=hp.enh.form
 obtain⟨b7,bc7,(rfl:v7=_)⟩:=hq.enh.form
 obtain⟨a8,ac8,(rfl:u8=_)⟩:=hp.files.form
 obtain⟨b8,bc8,(rfl:v8=_)⟩:=hq.files.form
 obtain⟨T,hT⟩:∃T,T=Ak ⟨pnm,pep,pve,pre,par,pvd,pl0,pl1,pl2,pl3,pl4,pl5,pl6,pl7,pl8⟩ ⟨qnm,qep,qve,qre,qar,qvd,ql0,ql1,ql2,ql3,ql4,ql5,ql6,ql7,ql8⟩:=⟨_,rfl⟩
 rw[←hT]
 obtain⟨t0,ht0⟩:∃t,t=eqL Ar pl0 ql0:=⟨_,rfl⟩
 obtain⟨t1,ht1⟩:∃t,t=eqL As (Ab pl1) (Ab ql1):=⟨_,rfl⟩
 obtain⟨t2,ht2⟩:∃t,t=eqL As (Ab pl2) (Ab ql2):=⟨_,rfl⟩
 obtain⟨t3,ht3⟩:∃t,t=eqL Ar pl3 ql3:=⟨_,rfl⟩
 obtain⟨t4,ht4⟩:∃t,t=eqL As (Ab pl4) (Ab ql4):=⟨_,rfl⟩
 obtain⟨t5,ht5⟩:∃t,t=eqL As (Ab pl5) (Ab ql5):=⟨_,rfl⟩
 obtain⟨t6,ht6⟩:∃t,t=eqL As (Ab pl6) (Ab ql6):=⟨_,rfl⟩
 obtain⟨t7,ht7⟩:∃t,t=eqL As (Ab pl7) (Ab ql7):=⟨_,rfl⟩
 obtain⟨t8,ht8⟩:∃t,t=eqL eqT pl8 ql8:=⟨_,rfl⟩
 have HT:=Hd (show T=(t0 && (t1 && (t2 && (t3 && (t4 && (t5 && (t6 && (t7 && (t8)))))))))from by rw[hT,ht0,ht1,ht2,ht3,ht4,ht5,ht6,ht7,ht8];unfold Ak;simp[e0,e1,e2,e3,e4,e5])
 clear hT
 obtain⟨W,hW,HBx⟩:=Ef w #[.string pnm,.int .i64 pep,.string pve,.string pre,.int .u8 par,.string pvd,.slice a0 pl0.length ac0,.slice a1 (Ab pl1).length ac1,.slice a2 (Ab pl2).length ac2,.slice a3 pl3.length ac3,.slice a4 (Ab pl4).length ac4,.slice a5 (Ab pl5).length ac5,.slice a6 (Ab pl6).length ac6,.slice a7 (Ab pl7).length ac7,.slice a8 pl8.length ac8] #[.string qnm,.int .i64 qep,.string qve,.string qre,.int .u8 qar,.string qvd,.slice b0 ql0.length bc0,.slice b1 (Ab ql1).length bc1,.slice b2 (Ab ql2).length bc2,.slice b3 ql3.length bc3,.slice b4 (Ab ql4).length bc4,.slice b5 (Ab ql5).length bc5,.slice b6 (Ab ql6).length bc6,.slice b7 (Ab ql7).length bc7,.slice b8 ql8.length bc8] 29
 have HC0:=Hd (show∀w',Below W.heap.size W w'→Calls Tryz.prog 99 #[.slice a0 pl0.length ac0,.slice b0 ql0.length bc0] w' (fun e w''=>e= .returned (.bool t0)∧Below w'.heap.size w' w'')from fun w' h=>by
  rw[ht0]
  exact LD pl0 ql0 _ _ w' (hp.prov.below (Aa HBx.out.2.2 h) fun _ _ _=>trivial) (hq.prov.below (Aa HBx.out.2.2 h) fun _ _ _=>trivial))
 have HC1:=Hd (show∀w',Below W.heap.size W w'→Calls Tryz.prog 96 #[.slice a1 (Ab pl1).length ac1,.slice b1 (Ab ql1).length bc1] w' (fun e w''=>e= .returned (.bool t1)∧Below w'.heap.size w' w'')from fun w' h=>by
  rw[ht1]
  exact CI (Ab pl1) (Ab ql1) _ _ w' (hp.req.below (Aa HBx.out.2.2 h) fun _ _ _=>trivial) (hq.req.below (Aa HBx.out.2.2 h) fun _ _ _=>trivial))
 have HC2:=Hd (show∀w',Below W.heap.size W w'→Calls Tryz.prog 96 #[.slice a2 (Ab pl2).length ac2,.slice b2 (Ab ql2).length bc2] w' (fun e w''=>e= .returned (.bool t2)∧Below w'.heap.size w' w'')from fun w' h=>by
  rw[ht2]
  exact CI (Ab pl2) (Ab ql2) _ _ w' (hp.con.below (Aa HBx.out.2.2 h) fun _ _ _=>trivial) (hq.con.below (Aa HBx.out.2.2 h) fun _ _ _=>trivial))
 have HC3:=Hd (show∀w',Below W.heap.size W w'→Calls Tryz.prog 99 #[.slice a3 pl3.length ac3,.slice b3 ql3.length bc3] w' (fun e w''=>e= .returned (.bool t3)∧Below w'.heap.size w' w'')from fun w' h=>by
  rw[ht3]
  exact LD pl3 ql3 _ _ w' (hp.obs.below (Aa HBx.out.2.2 h) fun _ _ _=>trivial) (hq.obs.below (Aa HBx.out.2.2 h) fun _ _ _=>trivial))
 have HC4:=Hd (show∀w',Below W.heap.size W w'→Calls Tryz.prog 96 #[.slice a4 (Ab pl4).length ac4,.slice b4 (Ab ql4).length bc4] w' (fun e w''=>e= .returned (.bool t4)∧Below w'.heap.size w' w'')from fun w' h=>by
  rw[ht4]
  exact CI (Ab pl4) (Ab ql4) _ _ w' (hp.reco.below (Aa HBx.out.2.2 h) fun _ _ _=>trivial) (hq.reco.below (Aa HBx.out.2.2 h) fun _ _ _=>trivial))
 have HC5:=Hd (show∀w',Below W.heap.size W w'→Calls Tryz.prog 96 #[.slice a5 (Ab pl5).length ac5,.slice b5 (Ab ql5).length bc5] w' (fun e w''=>e= .returned (.bool t5)∧Below w'.heap.size w' w'')from fun w' h=>by
  rw[ht5]
  exact CI (Ab pl5) (Ab ql5) _ _ w' (hp.sup.below (Aa HBx.out.2.2 h) fun _ _ _=>trivial) (hq.sup.below (Aa HBx.out.2.2 h) fun _ _ _=>trivial))
 have HC6:=Hd (show∀w',Below W.heap.size W w'→Calls Tryz.prog 96 #[.slice a6 (Ab pl6).length ac6,.slice b6 (Ab ql6).length bc6] w' (fun e w''=>e= .returned (.bool t6)∧Below w'.heap.size w' w'')from fun w' h=>by
  rw[ht6]
  exact CI (Ab pl6) (Ab ql6) _ _ w' (hp.sug.below (Aa HBx.out.2.2 h) fun _ _ _=>trivial) (hq.sug.below (Aa HBx.out.2.2 h) fun _ _ _=>trivial))
 have HC7:=Hd (show∀w',Below W.heap.size W w'→Calls Tryz.prog 96 #[.slice a7 (Ab pl7).length ac7,.slice b7 (Ab ql7).length bc7] w' (fun e w''=>e= .returned (.bool t7)∧Below w'.heap.size w' w'')from fun w' h=>by
  rw[ht7]
  exact CI (Ab pl7) (Ab ql7) _ _ w' (hp.enh.below (Aa HBx.out.2.2 h) fun _ _ _=>trivial) (hq.enh.below (Aa HBx.out.2.2 h) fun _ _ _=>trivial))
 have HC8:=Hd (show∀w',Below W.heap.size W w'→Calls Tryz.prog 100 #[.slice a8 pl8.length ac8,.slice b8 ql8.length bc8] w' (fun e w''=>e= .returned (.bool t8)∧Below w'.heap.size w' w'')from fun w' h=>by
  rw[ht8]
  exact Pz pl8 ql8 _ _ w' (hp.files.below (Aa HBx.out.2.2 h) fun _ _ _=>trivial) (hq.files.below (Aa HBx.out.2.2 h) fun _ _ _=>trivial))
 clear ht0 ht1 ht2 ht3 ht4 ht5 ht6 ht7 ht8
 have HDr:=Hd (Below.refl W.heap.size W)
 clear hp hq
 have z0:=HBx.out.1.lt
 have z1:=HBx.out.2.1.lt
 have x0:W.cell? ⟨w.heap.size,0,none⟩=some (.string pnm):=HBx.out.1.cell 0
 have y0:W.cell? ⟨w.heap.size+1,0,none⟩=some (.string qnm):=HBx.out.2.1.cell 0
 have x1:W.cell? ⟨w.heap.size,1,none⟩=some (.int .i64 pep):=HBx.out.1.cell 1
 have y1:W.cell? ⟨w.heap.size+1,1,none⟩=some (.int .i64 qep):=HBx.out.2.1.cell 1
 have x2:W.cell? ⟨w.heap.size,2,none⟩=some (.string pve):=HBx.out.1.cell 2
 have y2:W.cell? ⟨w.heap.size+1,2,none⟩=some (.string qve):=HBx.out.2.1.cell 2
 have x3:W.cell? ⟨w.heap.size,3,none⟩=some (.string pre):=HBx.out.1.cell 3
 have y3:W.cell? ⟨w.heap.size+1,3,none⟩=some (.string qre):=HBx.out.2.1.cell 3
 have x4:W.cell? ⟨w.heap.size,4,none⟩=some (.int .u8 par):=HBx.out.1.cell 4
 have y4:W.cell? ⟨w.heap.size+1,4,none⟩=some (.int .u8 qar):=HBx.out.2.1.cell 4
 have x5:W.cell? ⟨w.heap.size,5,none⟩=some (.string pvd):=HBx.out.1.cell 5
 have y5:W.cell? ⟨w.heap.size+1,5,none⟩=some (.string qvd):=HBx.out.2.1.cell 5
 have x6:W.cell? ⟨w.heap.size,6,none⟩=some (.slice a0 pl0.length ac0):=HBx.out.1.cell 6
 have y6:W.cell? ⟨w.heap.size+1,6,none⟩=some (.slice b0 ql0.length bc0):=HBx.out.2.1.cell 6
 subst e1
 subst e4
 go_enter Tryz.func51,Tryz.ntmps51
 go_upto_region 1 with fail
 rw[←hW]
 have HWe:=Hd hW
 clear hW
 go_wp2_with (first
  |(go_at_call 99;(with_reducible refine(HC0.out _ HDr.out).mono ?_);rintro e w0 ⟨rfl,hb⟩;have HDr:=Hd (Aa HDr.out hb);have hz1:w0.cell? ⟨w.heap.size,9,none⟩=some (.slice a3 pl3.length ac3):=(HBx.out.1.below HDr.out HBx.out.1.lt).cell 9;have hz2:w0.cell? ⟨w.heap.size+1,9,none⟩=some (.slice b3 ql3.length bc3):=(HBx.out.2.1.below HDr.out HBx.out.2.1.lt).cell 9;have hz3:=(HBx.out.1.below HDr.out HBx.out.1.lt).lt;have hz4:=(HBx.out.2.1.below HDr.out HBx.out.2.1.lt).lt;clear hb;cases t0)
  |(go_at_call 99;(with_reducible refine(HC3.out _ HDr.out).mono ?_);rintro e w3 ⟨rfl,hb⟩;have HDr:=Hd (Aa HDr.out hb);have hz1:w3.cell? ⟨w.heap.size,14,none⟩=some (.slice a8 pl8.length ac8):=(HBx.out.1.below HDr.out HBx.out.1.lt).cell 14;have hz2:w3.cell? ⟨w.heap.size+1,14,none⟩=some (.slice b8 ql8.length bc8):=(HBx.out.2.1.below HDr.out HBx.out.2.1.lt).cell 14;have hz3:=(HBx.out.1.below HDr.out HBx.out.1.lt).lt;have hz4:=(HBx.out.2.1.below HDr.out HBx.out.2.1.lt).lt;clear hb;cases t3)
  |(go_at_call 100;(with_reducible refine(HC8.out _ HDr.out).mono ?_);rintro e w8 ⟨rfl,hb⟩;have HDr:=Hd (Aa HDr.out hb);have hz1:w8.cell? ⟨w.heap.size,7,none⟩=some (.slice a1 (Ab pl1).length ac1):=(HBx.out.1.below HDr.out HBx.out.1.lt).cell 7;have hz2:w8.cell? ⟨w.heap.size+1,7,none⟩=some (.slice b1 (Ab ql1).length bc1):=(HBx.out.2.1.below HDr.out HBx.out.2.1.lt).cell 7;have hz3:=(HBx.out.1.below HDr.out HBx.out.1.lt).lt;have hz4:=(HBx.out.2.1.below HDr.out HBx.out.2.1.lt).lt;clear hb;cases t8)
  |(go_at_call 96;(with_reducible refine(HC1.out _ HDr.out).mono ?_);rintro e w1 ⟨rfl,hb⟩;have HDr:=Hd (Aa HDr.out hb);have hz1:w1.cell? ⟨w.heap.size,8,none⟩=some (.slice a2 (Ab pl2).length ac2):=(HBx.out.1.below HDr.out HBx.out.1.lt).cell 8;have hz2:w1.cell? ⟨w.heap.size+1,8,none⟩=some (.slice b2 (Ab ql2).length bc2):=(HBx.out.2.1.below HDr.out HBx.out.2.1.lt).cell 8;have hz3:=(HBx.out.1.below HDr.out HBx.out.1.lt).lt;have hz4:=(HBx.out.2.1.below HDr.out HBx.out.2.1.lt).lt;clear hb;cases t1)
  |(go_at_call 96;(with_reducible refine(HC2.out _ HDr.out).mono ?_);rintro e w2 ⟨rfl,hb⟩;have HDr:=Hd (Aa HDr.out hb);have hz1:w2.cell? ⟨w.heap.size,10,none⟩=some (.slice a4 (Ab pl4).length ac4):=(HBx.out.1.below HDr.out HBx.out.1.lt).cell 10;have hz2:w2.cell? ⟨w.heap.size+1,10,none⟩=some (.slice b4 (Ab ql4).length bc4):=(HBx.out.2.1.below HDr.out HBx.out.2.1.lt).cell 10;have hz3:=(HBx.out.1.below HDr.out HBx.out.1.lt).lt;have hz4:=(HBx.out.2.1.below HDr.out HBx.out.2.1.lt).lt;clear hb;cases t2)
  |(go_at_call 96;(with_reducible refine(HC4.out _ HDr.out).mono ?_);rintro e w4 ⟨rfl,hb⟩;have HDr:=Hd (Aa HDr.out hb);have hz1:w4.cell? ⟨w.heap.size,11,none⟩=some (.slice a5 (Ab pl5).length ac5):=(HBx.out.1.below HDr.out HBx.out.1.lt).cell 11;have hz2:w4.cell? ⟨w.heap.size+1,11,none⟩=some (.slice b5 (Ab ql5).length bc5):=(HBx.out.2.1.below HDr.out HBx.out.2.1.lt).cell 11;have hz3:=(HBx.out.1.below HDr.out HBx.out.1.lt).lt;have hz4:=(HBx.out.2.1.below HDr.out HBx.out.2.1.lt).lt;clear hb;cases t4)
  |(go_at_call 96;(with_reducible refine(HC5.out _ HDr.out).mono ?_);rintro e w5 ⟨rfl,hb⟩;have HDr:=Hd (Aa HDr.out hb);have hz1:w5.cell? ⟨w.heap.size,12,none⟩=some (.slice a6 (Ab pl6).length ac6):=(HBx.out.1.below HDr.out HBx.out.1.lt).cell 12;have hz2:w5.cell? ⟨w.heap.size+1,12,none⟩=some (.slice b6 (Ab ql6).length bc6):=(HBx.out.2.1.below HDr.out HBx.out.2.1.lt).cell 12;have hz3:=(HBx.out.1.below HDr.out HBx.out.1.lt).lt;have hz4:=(HBx.out.2.1.below HDr.out HBx.out.2.1.lt).lt;clear hb;cases t5)
  |(go_at_call 96;(with_reducible refine(HC6.out _ HDr.out).mono ?_);rintro e w6 ⟨rfl,hb⟩;have HDr:=Hd (Aa HDr.out hb);have hz1:w6.cell? ⟨w.heap.size,13,none⟩=some (.slice a7 (Ab pl7).length ac7):=(HBx.out.1.below HDr.out HBx.out.1.lt).cell 13;have hz2:w6.cell? ⟨w.heap.size+1,13,none⟩=some (.slice b7 (Ab ql7).length bc7):=(HBx.out.2.1.below HDr.out HBx.out.2.1.lt).cell 13;have hz3:=(HBx.out.1.below HDr.out HBx.out.1.lt).lt;have hz4:=(HBx.out.2.1.below HDr.out HBx.out.2.1.lt).lt;clear hb;cases t6)
  |(go_at_call 96;(with_reducible refine(HC7.out _ HDr.out).mono ?_);rintro e w7 ⟨rfl,hb⟩;have HDr:=Hd (Aa HDr.out hb);clear hb;cases t7)
  |fail)
 all_goals go_ret
 all_goals exact⟨Af (by rw[HT.out];simp),Aa HBx.out.2.2 HDr.out⟩
end Go.Proofs.YtdpjjnbelgaagaaGreatDoor
