/- pkg.Same. Conditions: as each theorem names them. -/
import Derived.Test.YtdpjjnbelgaagaaGreatDoorG18
namespace Go.Proofs.YtdpjjnbelgaagaaGreatDoor
set_option maxHeartbeats 32000000
open Go.ChangeShapes Go.WideShapes Go.ChangeAt Go.RowKit Go.Deep
set_option maxRecDepth 100000
theorem Pu (p q:Aq) (rp rq:AE) (w:World) (hp:Ah Ai w p rp) (hq:Ah Ai w q rq) (e0:¬p.name.toList=q.name.toList):Calls Tryz.prog 51 #[p.val rp,q.val rq] w fun e w'=>e= .returned (.bool (Ak p q))∧Below w.heap.size w w':=by
 rcases p with ⟨pnm,pep,pve,pre,par,pvd,pl0,pl1,pl2,pl3,pl4,pl5,pl6,pl7,pl8⟩
 rcases q with ⟨qnm,qep,qve,qre,qar,qvd,ql0,ql1,ql2,ql3,ql4,ql5,ql6,ql7,ql8⟩
 rcases rp with ⟨u0,u1,u2,u3,u4,u5,u6,u7,u8⟩
 rcases rq with ⟨v0,v1,v2,v3,v4,v5,v6,v7,v8⟩
 dsimp only at e0
 obtain⟨a0,ac0,(rfl:u0=_)⟩:=hp.prov.form
 obtain⟨b0,bc0,(rfl:v0=_)⟩:=hq.prov.form
 obtain⟨a1,ac1,(rfl:u1=_)⟩:=hp.req.form
 obtain⟨b1,bc1,(rfl:v1=_)⟩:=hq.req.form
 obtain⟨a2,ac2,(rfl:u2=_)⟩:=hp.con.form
 obtain⟨b2,bc2,(rfl:v2=_)⟩:=hq.con.form
 obtain⟨a3,ac3,(rfl:u3=_)⟩:=hp.obs.form
 obtain⟨b3,bc3,(rfl:v3=_)⟩:=hq.obs.form
 obtain⟨a4,ac4,(rfl:u4=_)⟩:=hp.reco.form
 obtain⟨b4,bc4,(rfl:v4=_)⟩:=hq.reco.form
 obtain⟨a5,ac5,(rfl:u5=_)⟩:=hp.sup.form
 obtain⟨b5,bc5,(rfl:v5=_)⟩:=hq.sup.form
 obtain⟨a6,ac6,(rfl:u6=_)⟩:=hp.sug.form
 obtain⟨b6,bc6,(rfl:v6=_)⟩:=hq.sug.form
 obtain⟨a7,ac7,(rfl:u7=_)⟩:=hp.enh.form
 obtain⟨b7,bc7,(rfl:v7=_)⟩:=hq.enh.form
 obtain⟨a8,ac8,(rfl:u8=_)⟩:=hp.files.form
 obtain⟨b8,bc8,(rfl:v8=_)⟩:=hq.files.form
 obtain⟨T,hT⟩:∃T,T=Ak ⟨pnm,pep,pve,pre,par,pvd,pl0,pl1,pl2,pl3,pl4,pl5,pl6,pl7,pl8⟩ ⟨qnm,qep,qve,qre,qar,qvd,ql0,ql1,ql2,ql3,ql4,ql5,ql6,ql7,ql8⟩:=⟨_,rfl⟩
 rw[←hT]
 have HT2:=Hd (show T=false from by rw[hT];unfold Ak;simp[e0])
 clear hT
 obtain⟨W,hW,HBx⟩:=Ef w #[.string pnm,.int .i64 pep,.string pve,.string pre,.int .u8 par,.string pvd,.slice a0 pl0.length ac0,.slice a1 (Ab pl1).length ac1,.slice a2 (Ab pl2).length ac2,.slice a3 pl3.length ac3,.slice a4 (Ab pl4).length ac4,.slice a5 (Ab pl5).length ac5,.slice a6 (Ab pl6).length ac6,.slice a7 (Ab pl7).length ac7,.slice a8 pl8.length ac8] #[.string qnm,.int .i64 qep,.string qve,.string qre,.int .u8 qar,.string qvd,.slice b0 ql0.length bc0,.slice b1 (Ab ql1).length bc1,.slice b2 (Ab ql2).length bc2,.slice b3 ql3.length bc3,.slice b4 (Ab ql4).length bc4,.slice b5 (Ab ql5).length bc5,.slice b6 (Ab ql6).length bc6,.slice b7 (Ab ql7).length bc7,.slice b8 ql8.length bc8] 29
 clear hp hq
 have z0:=HBx.out.1.lt
 have z1:=HBx.out.2.1.lt
 have x0:W.cell? ⟨w.heap.size,0,none⟩=some (.string pnm):=HBx.out.1.cell 0
 have y0:W.cell? ⟨w.heap.size+1,0,none⟩=some (.string qnm):=HBx.out.2.1.cell 0
 go_enter Tryz.func51,Tryz.ntmps51
 go_upto_region 1 with fail
 rw[←hW]
 have HWe:=Hd hW
 clear hW
 go_wp2_with fail
 go_ret
 exact⟨Af HT2.out.symm,HBx.out.2.2⟩
theorem Pt (p q:Aq) (rp rq:AE) (w:World) (hp:Ah Ai w p rp) (hq:Ah Ai w q rq) (e0:p.name.toList=q.name.toList) (e1:¬p.ep=q.ep):Calls Tryz.prog 51 #[p.val rp,q.val rq] w fun e w'=>e= .returned (.bool (Ak p q))∧Below w.heap.size w w':=by
 rcases p with ⟨pnm,pep,pve,pre,par,pvd,pl0,pl1,pl2,pl3,pl4,pl5,pl6,pl7,pl8⟩
 rcases q with ⟨qnm,qep,qve,qre,qar,qvd,ql0,ql1,ql2,ql3,ql4,ql5,ql6,ql7,ql8⟩
 rcases rp with ⟨u0,u1,u2,u3,u4,u5,u6,u7,u8⟩
 rcases rq with ⟨v0,v1,v2,v3,v4,v5,v6,v7,v8⟩
 dsimp only at e0 e1
 obtain⟨a0,ac0,(rfl:u0=_)⟩:=hp.prov.form
 obtain⟨b0,bc0,(rfl:v0=_)⟩:=hq.prov.form
 obtain⟨a1,ac1,(rfl:u1=_)⟩:=hp.req.form
 obtain⟨b1,bc1,(rfl:v1=_)⟩:=hq.req.form
 obtain⟨a2,ac2,(rfl:u2=_)⟩:=hp.con.form
 obtain⟨b2,bc2,(rfl:v2=_)⟩:=hq.con.form
 obtain⟨a3,ac3,(rfl:u3=_)⟩:=hp.obs.form
 obtain⟨b3,bc3,(rfl:v3=_)⟩:=hq.obs.form
 obtain⟨a4,ac4,(rfl:u4=_)⟩:=hp.reco.form
 obtain⟨b4,bc4,(rfl:v4=_)⟩:=hq.reco.form
 obtain⟨a5,ac5,(rfl:u5=_)⟩:=hp.sup.form
 obtain⟨b5,bc5,(rfl:v5=_)⟩:=hq.sup.form
 obtain⟨a6,ac6,(rfl:u6=_)⟩:=hp.sug.form
 obtain⟨b6,bc6,(rfl:v6=_)⟩:=hq.sug.form
 obtain⟨a7,ac7,(rfl:u7=_)⟩:=hp.enh.form
 obtain⟨b7,bc7,(rfl:v7=_)⟩:=hq.enh.form
 obtain⟨a8,ac8,(rfl:u8=_)⟩:=hp.files.form
 obtain⟨b8,bc8,(rfl:v8=_)⟩:=hq.files.form
 obtain⟨T,hT⟩:∃T,T=Ak ⟨pnm,pep,pve,pre,par,pvd,pl0,pl1,pl2,pl3,pl4,pl5,pl6,pl7,pl8⟩ ⟨qnm,qep,qve,qre,qar,qvd,ql0,ql1,ql2,ql3,ql4,ql5,ql6,ql7,ql8⟩:=⟨_,rfl⟩
 rw[←hT]
 have HT2:=Hd (show T=false from by rw[hT];unfold Ak;simp[e0,e1])
 clear hT
 obtain⟨W,hW,HBx⟩:=Ef w #[.string pnm,.int .i64 pep,.string pve,.string pre,.int .u8 par,.string pvd,.slice a0 pl0.length ac0,.slice a1 (Ab pl1).length ac1,.slice a2 (Ab pl2).length ac2,.slice a3 pl3.length ac3,.slice a4 (Ab pl4).length ac4,.slice a5 (Ab pl5).length ac5,.slice a6 (Ab pl6).length ac6,.slice a7 (Ab pl7).length ac7,.slice a8 pl8.length ac8] #[.string qnm,.int .i64 qep,.string qve,.string qre,.int .u8 qar,.string qvd,.slice b0 ql0.length bc0,.slice b1 (Ab ql1).length bc1,.slice b2 (Ab ql2).length bc2,.slice b3 ql3.length bc3,.slice b4 (Ab ql4).length bc4,.slice b5 (Ab ql5).length bc5,.slice b6 (Ab ql6).length bc6,.slice b7 (Ab ql7).length bc7,.slice b8 ql8.length bc8] 29
 clear hp hq
 have z0:=HBx.out.1.lt
 have z1:=HBx.out.2.1.lt
 have x0:W.cell? ⟨w.heap.size,0,none⟩=some (.string pnm):=HBx.out.1.cell 0
 have y0:W.cell? ⟨w.heap.size+1,0,none⟩=some (.string qnm):=HBx.out.2.1.cell 0
 have x1:W.cell? ⟨w.heap.size,1,none⟩=some (.int .i64 pep):=HBx.out.1.cell 1
 have y1:W.cell? ⟨w.heap.size+1,1,none⟩=some (.int .i64 qep):=HBx.out.2.1.cell 1
 have x2:W.cell? ⟨w.heap.size,2,none⟩=some (.string pve):=HBx.out.1.cell 2
 have y2:W.cell? ⟨w.heap.size+1,2,none⟩=some (.string qve):=HBx.out.2.1.cell 2
 have x3:W.cell? ⟨w.heap.size,3,none⟩=some (.string pre):=HBx.out.1.cell 3
 have y3:W.cell? ⟨w.heap.size+1,3,none⟩=some (.string qre):=HBx.out.2.1.cell 3
 go_enter Tryz.func51,Tryz.ntmps51
 go_upto_region 1 with fail
 rw[←hW]
 have HWe:=Hd hW
 clear hW
 go_wp2_with fail
 go_ret
 exact⟨Af HT2.out.symm,HBx.out.2.2⟩
theorem Ps (p q:Aq) (rp rq:AE) (w:World) (hp:Ah Ai w p rp) (hq:Ah Ai w q rq) (e0:p.name.toList=q.name.toList) (e1:p.ep=q.ep) (e2:¬p.ver.toList=q.ver.toList):Calls Tryz.prog 51 #[p.val rp,q.val rq] w fun e w'=>e= .returned (.bool (Ak p q))∧Below w.heap.size w w':=by
 rcases p with ⟨pnm,pep,pve,pre,par,pvd,pl0,pl1,pl2,pl3,pl4,pl5,pl6,pl7,pl8⟩
 rcases q with ⟨qnm,qep,qve,qre,qar,qvd,ql0,ql1,ql2,ql3,ql4,ql5,ql6,ql7,ql8⟩
 rcases rp with ⟨u0,u1,u2,u3,u4,u5,u6,u7,u8⟩
 rcases rq with ⟨v0,v1,v2,v3,v4,v5,v6,v7,v8⟩
 dsimp only at e0 e1 e2
 obtain⟨a0,ac0,(rfl:u0=_)⟩:=hp.prov.form
 obtain⟨b0,bc0,(rfl:v0=_)⟩:=hq.prov.form
 obtain⟨a1,ac1,(rfl:u1=_)⟩:=hp.req.form
 obtain⟨b1,bc1,(rfl:v1=_)⟩:=hq.req.form
 obtain⟨a2,ac2,(rfl:u2=_)⟩:=hp.con.form
 obtain⟨b2,bc2,(rfl:v2=_)⟩:=hq.con.form
 obtain⟨a3,ac3,(rfl:u3=_)⟩:=hp.obs.form
 obtain⟨b3,bc3,(rfl:v3=_)⟩:=hq.obs.form
 obtain⟨a4,ac4,(rfl:u4=_)⟩:=hp.reco.form
 obtain⟨b4,bc4,(rfl:v4=_)⟩:=hq.reco.form
 obtain⟨a5,ac5,(rfl:u5=_)⟩:=hp.sup.form
 obtain⟨b5,bc5,(rfl:v5=_)⟩:=hq.sup.form
 obtain⟨a6,ac6,(rfl:u6=_)⟩:=hp.sug.form
 obtain⟨b6,bc6,(rfl:v6=_)⟩:=hq.sug.form
 obtain⟨a7,ac7,(rfl:u7=_)⟩:=hp.enh.form
 obtain⟨b7,bc7,(rfl:v7=_)⟩:=hq.enh.form
 obtain⟨a8,ac8,(rfl:u8=_)⟩:=hp.files.form
 obtain⟨b8,bc8,(rfl:v8=_)⟩:=hq.files.form
 obtain⟨T,hT⟩:∃T,T=Ak ⟨pnm,pep,pve,pre,par,pvd,pl0,pl1,pl2,pl3,pl4,pl5,pl6,pl7,pl8⟩ ⟨qnm,qep,qve,qre,qar,qvd,ql0,ql1,ql2,ql3,ql4,ql5,ql6,ql7,ql8⟩:=⟨_,rfl⟩
 rw[←hT]
 have HT2:=Hd (show T=false from by rw[hT];unfold Ak;simp[e0,e1,e2])
 clear hT
 obtain⟨W,hW,HBx⟩:=Ef w #[.string pnm,.int .i64 pep,.string pve,.string pre,.int .u8 par,.string pvd,.slice a0 pl0.length ac0,.slice a1 (Ab pl1).length ac1,.slice a2 (Ab pl2).length ac2,.slice a3 pl3.length ac3,.slice a4 (Ab pl4).length ac4,.slice a5 (Ab pl5).length ac5,.slice a6 (Ab pl6).length ac6,.slice a7 (Ab pl7).length ac7,.slice a8 pl8.length ac8] #[.string qnm,.int .i64 qep,.string qve,.string qre,.int .u8 qar,.string qvd,.slice b0 ql0.length bc0,.slice b1 (Ab ql1).length bc1,.slice b2 (Ab ql2).length bc2,.slice b3 ql3.length bc3,.slice b4 (Ab ql4).length bc4,.slice b5 (Ab ql5).length bc5,.slice b6 (Ab ql6).length bc6,.slice b7 (Ab ql7).length bc7,.slice b8 ql8.length bc8] 29
 clear hp hq
 have z0:=HBx.out.1.lt
 have z1:=HBx.out.2.1.lt
 have x0:W.cell? ⟨w.heap.size,0,none⟩=some (.string pnm):=HBx.out.1.cell 0
 have y0:W.cell? ⟨w.heap.size+1,0,none⟩=some (.string qnm):=HBx.out.2.1.cell 0
 have x1:W.cell? ⟨w.heap.size,1,none⟩=some (.int .i64 pep):=HBx.out.1.cell 1
 have y1:W.cell? ⟨w.heap.size+1,1,none⟩=some (.int .i64 qep):=HBx.out.2.1.cell 1
 have x2:W.cell? ⟨w.heap.size,2,none⟩=some (.string pve):=HBx.out.1.cell 2
 have y2:W.cell? ⟨w.heap.size+1,2,none⟩=some (.string qve):=HBx.out.2.1.cell 2
 have x3:W.cell? ⟨w.heap.size,3,none⟩=some (.string pre):=HBx.out.1.cell 3
 have y3:W.cell? ⟨w.heap.size+1,3,none⟩=some (.string qre):=HBx.out.2.1.cell 3
 subst e1
 go_enter Tryz.func51,Tryz.ntmps51
 go_upto_region 1 with fail
 rw[←hW]
 have HWe:=Hd hW
 clear hW
 go_wp2_with fail
 go_ret
 exact⟨Af HT2.out.symm,HBx.out.2.2⟩
end Go.Proofs.YtdpjjnbelgaagaaGreatDoor
