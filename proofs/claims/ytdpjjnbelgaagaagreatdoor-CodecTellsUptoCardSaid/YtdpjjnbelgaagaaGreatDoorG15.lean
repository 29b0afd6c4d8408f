/- The document's Same of packages: leaves. Conditions: as each theorem names them. -/
import Derived.Test.YtdpjjnbelgaagaaGreatDoorG12
namespace Go.Proofs.YtdpjjnbelgaagaaGreatDoor
set_option maxHeartbeats 32000000
open Go.ChangeShapes Go.WideShapes Go.ChangeAt Go.RowKit Go.Deep
set_option maxRecDepth 100000
theorem Kx (p q:Aq) (rp rq:AE) (w:World) (hp:Ah Ai w p rp) (hq:Ah Ai w q rq) (e0:p.name.toList=q.name.toList) (e1:p.ep=q.ep) (e2:p.ver.toList=q.ver.toList) (e3:p.rel.toList=q.rel.toList) (e4:p.arch=q.arch) (e5:p.vendor.toList=q.vendor.toList) (e6:eqL Ar p.prov q.prov=true) (e7:eqL As (Ab p.req) (Ab q.req)=true) (e8:eqL As (Ab p.con) (Ab q.con)=true) (e9:eqL Ar p.obs q.obs=true) (e10:eqL As (Ab p.reco) (Ab q.reco)=false):Calls Tryz.prog 54 #[p.val rp,q.val rq] w fun e w'=>e= .returned (.bool (Ak p q))∧Below w.heap.size w w':=by
 rcases p with ⟨pnm,pep,pve,pre,par,pvd,pl0,pl1,pl2,pl3,pl4,pl5,pl6,pl7,pl8⟩
 rcases q with ⟨qnm,qep,qve,qre,qar,qvd,ql0,ql1,ql2,ql3,ql4,ql5,ql6,ql7,ql8⟩
 rcases rp with ⟨u0,u1,u2,u3,u4,u5,u6,u7,u8⟩
 rcases rq with ⟨v0,v1,v2,v3,v4,v5,v6,v7,v8⟩
 have HT2:=Hd (show Ak ⟨pnm,pep,pve,pre,par,pvd,pl0,pl1,pl2,pl3,pl4,pl5,pl6,pl7,pl8⟩ ⟨qnm,qep,qve,qre,qar,qvd,ql0,ql1,ql2,ql3,ql4,ql5,ql6,ql7,ql8⟩=false by unfold Ak;simp[e0,e2,e3,e5,e6,e7,e8,e9,e10])
 dsimp only at e0 e1 e2 e3 e4 e5 e6 e7 e8 e9 e10
 obtain⟨a0,ac0,(rfl:u0=_)⟩:=hp.prov.form
 obtain⟨b0,bc0,(rfl:v0=_)⟩:=hq.prov.form
 obtain⟨a1,ac1,(rfl:u1=_)⟩:=hp.req.form
 obtain⟨b1,bc1,(rfl:v1=_)⟩:=hq.req.form
 obtain⟨a2,ac2,(rfl:u2=_)⟩:=hp.con.form
 obtain⟨b2,bc2,(rfl:v2=_)⟩:=hq.con.form
 obtain⟨a3,ac3,(rfl:u3=_)⟩:=hp.obs.form
 obtain⟨b3,bc3,(rfl:v3=_)⟩:=hq.obs.form
 obtain⟨a4,ac4,(rfl:u4=_)⟩:=hp.reco.form
 obtain⟨b4,bc4,(rfl:v4=_)⟩:=hq.reco.form
 obtain⟨a5,ac5,(rfl:u5=_)⟩:=hp.sup.form
 obtain⟨b5,bc5,(rfl:v5=_)⟩:=hq.sup.form
 obtain⟨a6,ac6,(rfl:u6=_)⟩:=hp.sug.form
 obtain⟨b6,bc6,(rfl:v6=_)⟩:=hq.sug.form
 obtain⟨a7,ac7,(rfl:u7=_)⟩:=hp.enh.form
 obtain⟨b7,bc7,(rfl:v7=_)⟩:=hq.enh.form
 obtain⟨a8,ac8,(rfl:u8=_)⟩:=hp.files.form
 obtain⟨b8,bc8,(rfl:v8=_)⟩:=hq.files.form
 obtain⟨T,hT⟩:∃T,T=Ak ⟨pnm,pep,pve,pre,par,pvd,pl0,pl1,pl2,pl3,pl4,pl5,pl6,pl7,pl8⟩ ⟨qnm,qep,qve,qre,qar,qvd,ql0,ql1,ql2,ql3,ql4,ql5,ql6,ql7,ql8⟩:=⟨_,rfl⟩
 rw[←hT]
 rw[←hT]at HT2
 clear hT
 obtain⟨W,HBx,HDr⟩:=Bo w #[.string pnm,.int .i64 pep,.string pve,.string pre,.int .u8 par,.string pvd,.slice a0 pl0.length ac0,.slice a1 (Ab pl1).length ac1,.slice a2 (Ab pl2).length ac2,.slice a3 pl3.length ac3,.slice a4 (Ab pl4).length ac4,.slice a5 (Ab pl5).length ac5,.slice a6 (Ab pl6).length ac6,.slice a7 (Ab pl7).length ac7,.slice a8 pl8.length ac8] #[.string qnm,.int .i64 qep,.string qve,.string qre,.int .u8 qar,.string qvd,.slice b0 ql0.length bc0,.slice b1 (Ab ql1).length bc1,.slice b2 (Ab ql2).length bc2,.slice b3 ql3.length bc3,.slice b4 (Ab ql4).length bc4,.slice b5 (Ab ql5).length bc5,.slice b6 (Ab ql6).length bc6,.slice b7 (Ab ql7).length bc7,.slice b8 ql8.length bc8] 29
 have HC0:=Hd (fun w' (h:Below W.heap.size W w')=>Aw (A3 _ _ _ _ w' (hp.prov.bl' (Aa HBx.out.2.2 h)) (hq.prov.bl' (Aa HBx.out.2.2 h))) e6)
 have HC1:=Hd (fun w' (h:Below W.heap.size W w')=>Aw (Ap _ _ _ _ w' (hp.req.bl' (Aa HBx.out.2.2 h)) (hq.req.bl' (Aa HBx.out.2.2 h))) e7)
 have HC2:=Hd (fun w' (h:Below W.heap.size W w')=>Aw (Ap _ _ _ _ w' (hp.con.bl' (Aa HBx.out.2.2 h)) (hq.con.bl' (Aa HBx.out.2.2 h))) e8)
 have HC3:=Hd (fun w' (h:Below W.heap.size W w')=>Aw (A3 _ _ _ _ w' (hp.obs.bl' (Aa HBx.out.2.2 h)) (hq.obs.bl' (Aa HBx.out.2.2 h))) e9)
 have HC4:=Hd (fun w' (h:Below W.heap.size W w')=>Aw (Ap _ _ _ _ w' (hp.reco.bl' (Aa HBx.out.2.2 h)) (hq.reco.bl' (Aa HBx.out.2.2 h))) e10)
 clear hp hq
 clear e6
 clear e7
 clear e8
 clear e9
 clear e10
 subst e1
 subst e4
 go_enter Tryz.func54,Tryz.ntmps54
 go_wp2_with (first
  |(go_at_call 101;(with_reducible refine(HC0.out _ HDr.out).mono ?_);rintro e w0 ⟨rfl,hb⟩;have HDr:=Hd (Aa HDr.out hb);have hz1:=(HBx.out.1.below HDr.out HBx.out.1.lt).cell 7;have hz2:=(HBx.out.2.1.below HDr.out HBx.out.2.1.lt).cell 7;clear hb)
  |(go_at_call 102;(with_reducible refine(HC1.out _ HDr.out).mono ?_);rintro e w1 ⟨rfl,hb⟩;have HDr:=Hd (Aa HDr.out hb);have hz1:=(HBx.out.1.below HDr.out HBx.out.1.lt).cell 8;have hz2:=(HBx.out.2.1.below HDr.out HBx.out.2.1.lt).cell 8;clear hb)
  |(go_at_call 102;(with_reducible refine(HC2.out _ HDr.out).mono ?_);rintro e w2 ⟨rfl,hb⟩;have HDr:=Hd (Aa HDr.out hb);have hz1:=(HBx.out.1.below HDr.out HBx.out.1.lt).cell 9;have hz2:=(HBx.out.2.1.below HDr.out HBx.out.2.1.lt).cell 9;clear hb)
  |(go_at_call 101;(with_reducible refine(HC3.out _ HDr.out).mono ?_);rintro e w3 ⟨rfl,hb⟩;have HDr:=Hd (Aa HDr.out hb);have hz1:=(HBx.out.1.below HDr.out HBx.out.1.lt).cell 10;have hz2:=(HBx.out.2.1.below HDr.out HBx.out.2.1.lt).cell 10;clear hb)
  |(go_at_call 102;(with_reducible refine(HC4.out _ HDr.out).mono ?_);rintro e w4 ⟨rfl,hb⟩;have HDr:=Hd (Aa HDr.out hb);clear hb)
  |fail)
 go_ret
 exact⟨Af HT2.out.symm,Aa HBx.out.2.2 HDr.out⟩
theorem Kw (p q:Aq) (rp rq:AE) (w:World) (hp:Ah Ai w p rp) (hq:Ah Ai w q rq) (e0:p.name.toList=q.name.toList) (e1:p.ep=q.ep) (e2:p.ver.toList=q.ver.toList) (e3:p.rel.toList=q.rel.toList) (e4:p.arch=q.arch) (e5:p.vendor.toList=q.vendor.toList) (e6:eqL Ar p.prov q.prov=true) (e7:eqL As (Ab p.req) (Ab q.req)=true) (e8:eqL As (Ab p.con) (Ab q.con)=true) (e9:eqL Ar p.obs q.obs=true) (e10:eqL As (Ab p.reco) (Ab q.reco)=true) (e11:eqL As (Ab p.sup) (Ab q.sup)=false):Calls Tryz.prog 54 #[p.val rp,q.val rq] w fun e w'=>e= .returned (.bool (Ak p q))∧Below w.heap.size w w':=by
 rcases p with ⟨pnm,pep,pve,pre,par,pvd,pl0,pl1,pl2,pl3,pl4,pl5,pl6,pl7,pl8⟩
 rcases q with ⟨qnm,qep,qve,qre,qar,qvd,ql0,ql1,ql2,ql3,ql4,ql5,ql6,ql7,ql8⟩
 rcases rp with ⟨u0,u1,u2,u3,u4,u5,u6,u7,u8⟩
 rcases rq with ⟨v0,v1,v2,v3,v4,v5,v6,v7,v8⟩
 have HT2:=Hd (show Ak ⟨pnm,pep,pve,pre,par,pvd,pl0,pl1,pl2,pl3,pl4,pl5,pl6,pl7,pl8⟩ ⟨qnm,qep,qve,qre,qar,qvd,ql0,ql1,ql2,ql3,ql4,ql5,ql6,ql7,ql8⟩=false by unfold Ak;simp[e0,e2,e3,e5,e6,e7,e8,e9,e10,e11])
 dsimp only at e0 e1 e2 e3 e4 e5 e6 e7 e8 e9 e10 e11
 obtain⟨a0,ac0,(rfl:u0=_)⟩:=hp.prov.form
 obtain⟨b0,bc0,(rfl:v0=_)⟩:=hq.prov.form
 obtain⟨a1,ac1,(rfl:u1=_)⟩:=hp.req.form
 obtain⟨b1,bc1,(rfl:v1=_)⟩:=hq.req.form
 obtain⟨a2,ac2,(rfl:u2=_)⟩:=hp.con.form
 obtain⟨b2,bc2,(rfl:v2=_)⟩:=hq.con.form
 obtain⟨a3,ac3,(rfl:u3=_)⟩:=hp.obs.form
 obtain⟨b3,bc3,(rfl:v3=_)⟩:=hq.obs.form
 obtain⟨a4,ac4,(rfl:u4=_)⟩:=hp.reco.form
 obtain⟨b4,bc4,(rfl:v4=_)⟩:=hq.reco.form
 obtain⟨a5,ac5,(rfl:u5=_)⟩:=hp.sup.form
 obtain⟨b5,bc5,(rfl:v5=_)⟩:=hq.sup.form
 obtain⟨a6,ac6,(rfl:u6=_)⟩:=hp.sug.form
 obtain⟨b6,bc6,(rfl:v6=_)⟩:=hq.sug.form
 obtain⟨a7,ac7,(rfl:u7=_)⟩:=hp.enh.form
 obtain⟨b7,bc7,(rfl:v7=_)⟩:=hq.enh.form
 obtain⟨a8,ac8,(rfl:u8=_)⟩:=hp.files.form
 obtain⟨b8,bc8,(rfl:v8=_)⟩:=hq.files.form
 obtain⟨T,hT⟩:∃T,T=Ak ⟨pnm,pep,pve,pre,par,pvd,pl0,pl1,pl2,pl3,pl4,pl5,pl6,pl7,pl8⟩ ⟨qnm,qep,qve,qre,qar,qvd,ql0,ql1,ql2,ql3,ql4,ql5,ql6,ql7,ql8⟩:=⟨_,rfl⟩
 rw[←hT]
 rw[←hT]at HT2
 clear hT
 obtain⟨W,HBx,HDr⟩:=Bo w #[.string pnm,.int .i64 pep,.string pve,.string pre,.int .u8 par,.string pvd,.slice a0 pl0.length ac0,.slice a1 (Ab pl1).length ac1,.slice a2 (Ab pl2).length ac2,.slice a3 pl3.length ac3,.slice a4 (Ab pl4).length ac4,.slice a5 (Ab pl5).length ac5,.slice a6 (Ab pl6).length ac6,.slice a7 (Ab pl7).length ac7,.slice a8 pl8.length ac8] #[.string qnm,.int .i64 qep,.string qve,.string qre,.int .u8 qar,.string qvd,.slice b0 ql0.length bc0,.slice b1 (Ab ql1).length bc1,.slice b2 (Ab ql2).length bc2,.slice b3 ql3.length bc3,.slice b4 (Ab ql4).length bc4,.slice b5 (Ab ql5).length bc5,.slice b6 (Ab ql6).length bc6,.slice b7 (Ab ql7).length bc7,.slice b8 ql8.length bc8] 29
 have HC0:=Hd (fun w' (h:Below W.heap.size W w')=>Aw (A3 _ _ _ _ w' (hp.prov.bl' (Aa HBx.out.2.2 h)) (hq.prov.bl' (Aa HBx.out.2.2 h))) e6)
 have HC1:=Hd (fun w' (h:Below W.heap.size W w')=>Aw (Ap _ _ _ _ w' (hp.req.bl' (Aa HBx.out.2.2 h)) (hq.req.bl' (Aa HBx.out.2.2 h))) e7)
 have HC2:=Hd (fun w' (h:Below W.heap.size W w')=>Aw (Ap _ _ _ _ w' (hp.con.bl' (Aa HBx.out.2.2 h)) (hq.con.bl' (Aa HBx.out.2.2 h))) e8)
 have HC3:=Hd (fun w' (h:Below W.heap.size W w')=>Aw (A3 _ _ _ _ w' (hp.obs.bl' (Aa HBx.out.2.2 h)) (hq.obs.bl' (Aa HBx.out.2.2 h))) e9)
 have HC4:=Hd (fun w' (h:Below W.heap.size W w')=>Aw (Ap _ _ _ _ w' (hp.reco.bl' (Aa HBx.out.2.2 h)) (hq.reco.bl' (Aa HBx.out.2.2 h))) e10)
 have HC5:=Hd (fun w' (h:Below W.heap.size W w')=>Aw (Ap _ _ _ _ w' (hp.sup.bl' (Aa HBx.out.2.2 h)) (hq.sup.bl' (Aa HBx.out.2.2 h))) e11)
 clear hp hq
 clear e6
 clear e7
 clear e8
 clear e9
 clear e10
 clear e11
 subst e1
 subst e4
 go_enter Tryz.func54,Tryz.ntmps54
 go_wp2_with (first
  |(go_at_call 101;(with_reducible refine(HC0.out _ HDr.out).mono ?_);rintro e w0 ⟨rfl,hb⟩;have HDr:=Hd (Aa HDr.out hb);have hz1:=(HBx.out.1.below HDr.out HBx.out.1.lt).cell 7;have hz2:=(HBx.out.2.1.below HDr.out HBx.out.2.1.lt).cell 7;clear hb)
  |(go_at_call 102;(with_reducible refine(HC1.out _ HDr.out).mono ?_);rintro e w1 ⟨rfl,hb⟩;have HDr:=Hd (Aa HDr.out hb);have hz1:=(HBx.out.1.below HDr.out HBx.out.1.lt).cell 8;have hz2:=(HBx.out.2.1.below HDr.out HBx.out.2.1.lt).cell 8;clear hb)
  |(go_at_call 102;(with_reducible refine(HC2.out _ HDr.out).mono ?_);rintro e w2 ⟨rfl,hb⟩;have HDr:=Hd (Aa HDr.out hb);have hz1:=(HBx.out.1.below HDr.out HBx.out.1.lt).cell 9;have hz2:=(HBx.out.2.1.below HDr.out HBx.out.2.1.lt).cell 9;clear hb)
  |(go_at_call 101;(with_reducible refine(HC3.out _ HDr.out).mono ?_);rintro e w3 ⟨rfl,hb⟩;have HDr:=Hd (Aa HDr.out hb);have hz1:=(HBx.out.1.below HDr.out HBx.out.1.lt).cell 10;have hz2:=(HBx.out.2.1.below HDr.out HBx.out.2.1.lt).cell 10;clear hb)
  |(go_at_call 102;(with_reducible refine(HC4.out _ HDr.out).mono ?_);rintro e w4 ⟨rfl,hb⟩;have HDr:=Hd (Aa HDr.out hb);have hz1:=(HBx.out.1.below HDr.out HBx.out.1.lt).cell 11;have hz2:=(HBx.out.2.1.below HDr.out HBx.out.2.1.lt).cell 11;clear hb)
  |(go_at_call 102;(with_reducible refine(HC5.out _ HDr.out).mono ?_);rintro e w5 ⟨rfl,hb⟩;have HDr:=Hd (Aa HDr.out hb);clear hb)
  |fail)
 go_ret
 exact⟨Af HT2.out.symm,Aa HBx.out.2.2 HDr.out⟩
theorem Kv (p q:Aq) (rp rq:AE) (w:World) (hp:Ah Ai w p rp) (hq:Ah Ai w q rq) (e0:p.name.toList=q.name.toList) (e1:p.ep=q.ep) (e2:p.ver.toList=q.ver.toList) (e3:p.rel.toList=q.rel.toList) (e4:p.arch=q.arch) (e5:p.vendor.toList=q.vendor.toList) (e6:eqL Ar p.prov q.prov=true) (e7:eqL As (Ab p.req) (Ab q.req)=true) (e8:eqL As (Ab p.con) (Ab q.con)=true) (e9:eqL Ar p.obs q.obs=true) (e10:eqL As (Ab p.reco) (Ab q.reco)=true) (e11:eqL As (Ab p.sup) (Ab q.sup)=true) (e12:eqL As (Ab p.sug) (Ab q.sug)=false):Calls Tryz.prog 54 #[p.val rp,q.val rq] w fun e w'=>e= .returned (.bool (Ak p q))∧Below w.heap.size w w':=by
 rcases p with ⟨pnm,pep,pve,pre,par,pvd,pl0,pl1,pl2,pl3,pl4,pl5,pl6,pl7,pl8⟩
 rcases q with ⟨qnm,qep,qve,qre,qar,qvd,ql0,ql1,ql2,ql3,ql4,ql5,ql6,ql7,ql8⟩
 rcases rp with ⟨u0,u1,u2,u3,u4,u5,u6,u7,u8⟩
 rcases rq with ⟨v0,v1,v2,v3,v4,v5,v6,v7,v8⟩
 have HT2:=Hd (show Ak ⟨pnm,pep,pve,pre,par,pvd,pl0,pl1,pl2,pl3,pl4,pl5,pl6,pl7,pl8⟩ ⟨qnm,qep,qve,qre,qar,qvd,ql0,ql1,ql2,ql3,ql4,ql5,ql6,ql7,ql8⟩=false by unfold Ak;simp[e0,e2,e3,e5,e6,e7,e8,e9,e10,e11,e12])
 dsimp only at e0 e1 e2 e3 e4 e5 e6 e7 e8 e9 e10 e11 e12
 obtain⟨a0,ac0,(rfl:u0=_)⟩:=hp.prov.form
 obtain⟨b0,bc0,(rfl:v0=_)⟩:=hq.prov.form
 obtain⟨a1,ac1,(rfl:u1=_)⟩:=hp.req.form
 obtain⟨b1,bc1,(rfl:v1=_)⟩:=hq.req.form
 obtain⟨a2,ac2,(rfl:u2=_)⟩:=hp.con.form
 obtain⟨b2,bc2,(rfl:v2=_)⟩:=hq.con.form
 obtain⟨a3,ac3,(rfl:u3=_)⟩:=hp.obs.form
 obtain⟨b3,bc3,(rfl:v3=_)⟩:=hq.obs.form
 obtain⟨a4,ac4,(rfl:u4=_)⟩:=hp.reco.form
 obtain⟨b4,bc4,(rfl:v4=_)⟩:=hq.reco.form
 obtain⟨a5,ac5,(rfl:u5=_)⟩:=hp.sup.form
 obtain⟨b5,bc5,(rfl:v5=_)⟩:=hq.sup.form
 obtain⟨a6,ac6,(rfl:u6=_)⟩:=hp.sug.form
 obtain⟨b6,bc6,(rfl:v6=_)⟩:=hq.sug.form
 obtain⟨a7,ac7,(rfl:u7=_)⟩:=hp.enh.form
 obtain⟨b7,bc7,(rfl:v7=_)⟩:=hq.enh.form
 obtain⟨a8,ac8,(rfl:u8=_)⟩:=hp.files.form
 obtain⟨b8,bc8,(rfl:v8=_)⟩:=hq.files.form
 obtain⟨T,hT⟩:∃T,T=Ak ⟨pnm,pep,pve,pre,par,pvd,pl0,pl1,pl2,pl3,pl4,pl5,pl6,pl7,pl8⟩ ⟨qnm,qep,qve,qre,qar,qvd,ql0,ql1,ql2,ql3,ql4,ql5,ql6,ql7,ql8⟩:=⟨_,rfl⟩
 rw[←hT]
 rw[←hT]at HT2
 clear hT
 obtain⟨W,HBx,HDr⟩:=Bo w #[.string pnm,.int .i64 pep,.string pve,.string pre,.int .u8 par,.string pvd,.slice a0 pl0.length ac0,.slice a1 (Ab pl1).length ac1,.slice a2 (Ab pl2).length ac2,.slice a3 pl3.length ac3,.slice a4 (Ab pl4).length ac4,.slice a5 (Ab pl5).length ac5,.slice a6 (Ab pl6).length ac6,.slice a7 (Ab pl7).length ac7,.slice a8 pl8.length ac8] #[.string qnm,.int .i64 qep,.string qve,.string qre,.int .u8 qar,.string qvd,.slice b0 ql0.length bc0,.slice b1 (Ab ql1).length bc1,.slice b2 (Ab ql2).length bc2,.slice b3 ql3.length bc3,.slice b4 (Ab ql4).length bc4,.slice b5 (Ab ql5).length bc5,.slice b6 (Ab ql6).length bc6,.slice b7 (Ab ql7).length bc7,.slice b8 ql8.length bc8] 29
 have HC0:=Hd (fun w' (h:Below W.heap.size W w')=>Aw (A3 _ _ _ _ w' (hp.prov.bl' (Aa HBx.out.2.2 h)) (hq.prov.bl' (Aa HBx.out.2.2 h))) e6)
 have HC1:=Hd (fun w' (h:Below W.heap.size W w')=>Aw (Ap _ _ _ _ w' (hp.req.bl' (Aa HBx.out.2.2 h)) (hq.req.bl' (Aa HBx.out.2.2 h))) e7)
 have HC2:=Hd (fun w' (h:Below W.heap.size W w')=>Aw (Ap _ _ _ _ w' (hp.con.bl' (Aa HBx.out.2.2 h)) (hq.con.bl' (Aa HBx.out.2.2 h))) e8)
 have HC3:=Hd (fun w' (h:Below W.heap.size W w')=>Aw (A3 _ _ _ _ w' (hp.obs.bl' (Aa HBx.out.2.2 h)) (hq.obs.bl' (Aa HBx.out.2.2 h))) e9)
 have HC4:=Hd (fun w' (h:Below W.heap.size W w')=>Aw (Ap _ _ _ _ w' (hp.reco.bl' (Aa HBx.out.2.2 h)) (hq.reco.bl' (Aa HBx.out.2.2 h))) e10)
 have HC5:=Hd (fun w' (h:Below W.heap.size W w')=>Aw (Ap _ _ _ _ w' (hp.sup.bl' (Aa HBx.out.2.2 h)) (hq.sup.bl' (Aa HBx.out.2.2 h))) e11)
 have HC6:=Hd (fun w' (h:Below W.heap.size W w')=>Aw (Ap _ _ _ _ w' (hp.sug.bl' (Aa HBx.out.2.2 h)) (hq.sug.bl' (Aa HBx.out.2.2 h))) e12)
 clear hp hq
 clear e6
 clear e7
 clear e8
 clear e9
 clear e10
 clear e11
 clear e12
 subst e1
 subst e4
 go_enter Tryz.func54,Tryz.ntmps54
 go_wp2_with (first
  |(go_at_call 101;(with_reducible refine(HC0.out _ HDr.out).mono ?_);rintro e w0 ⟨rfl,hb⟩;have HDr:=Hd (Aa HDr.out hb);have hz1:=(HBx.out.1.below HDr.out HBx.out.1.lt).cell 7;have hz2:=(HBx.out.2.1.below HDr.out HBx.out.2.1.lt).cell 7;clear hb)
  |(go_at_call 102;(with_reducible refine(HC1.out _ HDr.out).mono ?_);rintro e w1 ⟨rfl,hb⟩;have HDr:=Hd (Aa HDr.out hb);have hz1:=(HBx.out.1.below HDr.out HBx.out.1.lt).cell 8;have hz2:=(HBx.out.2.1.below HDr.out HBx.out.2.1.lt).cell 8;clear hb)
  |(go_at_call 102;(with_reducible refine(HC2.out _ HDr.out).mono ?_);rintro e w2 ⟨rfl,hb⟩;have HDr:=Hd (Aa HDr.out hb);have hz1:=(HBx.out.1.below HDr.out HBx.out.1.lt).cell 9;have hz2:=(HBx.out.2.1.below HDr.out HBx.out.2.1.lt).cell 9;clear hb)
  |(go_at_call 101;(with_reducible refine(HC3.out _ HDr.out).mono ?_);rintro e w3 ⟨rfl,hb⟩;have HDr:=Hd (Aa HDr.out hb);have hz1:=(HBx.out.1.below HDr.out HBx.out.1.lt).cell 10;have hz2:=(HBx.out.2.1.below HDr.out HBx.out.2.1.lt).cell 10;clear hb)
  |(go_at_call 102;(with_reducible refine(HC4.out _ HDr.out).mono ?_);rintro e w4 ⟨rfl,hb⟩;have HDr:=Hd (Aa HDr.out hb);have hz1:=(HBx.out.1.below HDr.out HBx.out.1.lt).cell 11;have hz2:=(HBx.out.2.1.below HDr.out HBx.out.2.1.lt).cell 11;clear hb)
  |(go_at_call 102;(with_reducible refine(HC5.out _ HDr.out).mono ?_);rintro e w5 ⟨rfl,hb⟩;have HDr:=Hd (Aa HDr.out hb);have hz1:=(HBx.out.1.below HDr.out HBx.out.1.lt).cell 12;have hz2:=(HBx.out.2.1.below HDr.out HBx.out.2.1.lt).cell 12;clear hb)
  |(go_at_call 102;(with_reducible refine(HC6.out _ HDr.out).mono ?_);rintro e w6 ⟨rfl,hb⟩;have HDr:=Hd (Aa HDr.out hb);clear hb)
  |fail)
 go_ret
 exact⟨Af HT2.out.symm,Aa HBx.out.2.2 HDr.out⟩
theorem Ku (p q:Aq) (rp rq:AE) (w:World) (hp:Ah Ai w p rp) (hq:Ah Ai w q rq) (e0:p.name.toList=q.name.toList) (e1:p.ep=q.ep) (e2:p.ver.toList=q.ver.toList) (e3:p.rel.toList=q.rel.toList) (e4:p.arch=q.arch) (e5:p.vendor.toList=q.vendor.toList) (e6:eqL Ar p.prov q.prov=true) (e7:eqL As (Ab p.req) (Ab q.req)=true) (e8:eqL As (Ab p.con) (Ab q.con)=true) (e9:eqL Ar p.obs q.obs=true) (e10:eqL As (Ab p.reco) (Ab q.reco)=true) (e11:eqL As (Ab p.sup) (Ab q.sup)=true) (e12:eqL As (Ab p.sug) (Ab q.sug)=true) (e13:eqL As (Ab p.enh) (Ab q.enh)=false):Calls Tryz.prog 54 #[p.val rp,q.val rq] w fun e w'=>e= .returned (.bool (Ak p q))∧Below w.heap.size w w':=by
 rcases p with ⟨pnm,pep,pve,pre,par,pvd,pl0,pl1,pl2,pl3,pl4,pl5,pl6,pl7,pl8⟩
 rcases q with ⟨qnm,qep,qve,qre,qar,qvd,ql0,ql1,ql2,ql3,ql4,ql5,ql6,ql7,ql8⟩
 rcases rp with ⟨u0,u1,u2,u3,u4,u5,u6,u7,u8⟩
 rcases rq with ⟨v0,v1,v2,v3,v4,v5,v6,v7,v8⟩
 have HT2:=Hd (show Ak ⟨pnm,pep,pve,pre,par,pvd,pl0,pl1,pl2,pl3,pl4,pl5,pl6,pl7,pl8⟩ ⟨qnm,qep,qve,qre,qar,qvd,ql0,ql1,ql2,ql3,ql4,ql5,ql6,ql7,ql8⟩=false by unfold Ak;simp[e0,e2,e3,e5,e6,e7,e8,e9,e10,e11,e12,e13])
 dsimp only at e0 e1 e2 e3 e4 e5 e6 e7 e8 e9 e10 e11 e12 e13
 obtain⟨a0,ac0,(rfl:u0=_)⟩:=hp.prov.form
 obtain⟨b0,bc0,(rfl:v0=_)⟩:=hq.prov.form
 obtain⟨a1,ac1,(rfl:u1=_)⟩:=hp.req.form
 obtain⟨b1,bc1,(rfl:v1=_)⟩:=hq.req.form
 obtain⟨a2,ac2,(rfl:u2=_)⟩:=hp.con.form
 obtain⟨b2,bc2,(rfl:v2=_)⟩:=hq.con.form
 obtain⟨a3,ac3,(rfl:u3=_)⟩:=hp.obs.form
 obtain⟨b3,bc3,(rfl:v3=_)⟩:=hq.obs.form
 obtain⟨a4,ac4,(rfl:u4=_)⟩:=hp.reco.form
 obtain⟨b4,bc4,(rfl:v4=_)⟩:=hq.reco.form
 obtain⟨a5,ac5,(rfl:u5=_)⟩:=hp.sup.form
 obtain⟨b5,bc5,(rfl:v5=_)⟩:=hq.sup.form
 obtain⟨a6,ac6,(rfl:u6=_)⟩:=hp.sug.form
 obtain⟨b6,bc6,(rfl:v6=_)⟩:=hq.sug.form
 obtain⟨a7,ac7,(rfl:u7=_)⟩:=hp.enh.form
 obtain⟨b7,bc7,(rfl:v7=_)⟩:=hq.enh.form
 obtain⟨a8,ac8,(rfl:u8=_)⟩:=hp.files.form
 obtain⟨b8,bc8,(rfl:v8=_)⟩:=hq.files.form
 obtain⟨T,hT⟩:∃T,T=Ak ⟨pnm,pep,pve,pre,par,pvd,pl0,pl1,pl2,pl3,pl4,pl5,pl6,pl7,pl8⟩ ⟨qnm,qep,qve,qre,qar,qvd,ql0,ql1,ql2,ql3,ql4,ql5,ql6,ql7,ql8⟩:=⟨_,rfl⟩
 rw[←hT]
 rw[←hT]at HT2
 clear hT
 obtain⟨W,HBx,HDr⟩:=Bo w #[.string pnm,.int .i64 pep,.string pve,.string pre,.int .u8 par,.string pvd,.slice a0 pl0.length ac0,.slice a1 (Ab pl1).length ac1,.slice a2 (Ab pl2).length ac2,.slice a3 pl3.length ac3,.slice a4 (Ab pl4).length ac4,.slice a5 (Ab pl5).length ac5,.slice a6 (Ab pl6).length ac6,.slice a7 (Ab pl7).length ac7,.slice a8 pl8.length ac8] #[.string qnm,.int .i64 qep,.string qve,.string qre,.int .u8 qar,.string qvd,.slice b0 ql0.length bc0,.slice b1 (Ab ql1).length bc1,.slice b2 (Ab ql2).length bc2,.slice b3 ql3.length bc3,.slice b4 (Ab ql4).length bc4,.slice b5 (Ab ql5).length bc5,.slice b6 (Ab ql6).length bc6,.slice b7 (Ab ql7).length bc7,.slice b8 ql8.length bc8] 29
 have HC0:=Hd (fun w' (h:Below W.heap.size W w')=>Aw (A3 _ _ _ _ w' (hp.prov.bl' (Aa HBx.out.2.2 h)) (hq.prov.bl' (Aa HBx.out.2.2 h))) e6)
 have HC1:=Hd (fun w' (h:Below W.heap.size W w')=>Aw (Ap _ _ _ _ w' (hp.req.bl' (Aa HBx.out.2.2 h)) (hq.req.bl' (Aa HBx.out.2.2 h))) e7)
 have HC2:=Hd (fun w' (h:Below W.heap.size W w')=>Aw (Ap _ _ _ _ w' (hp.con.bl' (Aa HBx.out.2.2 h)) (hq.con.bl' (Aa HBx.out.2.2 h))) e8)
 have HC3:=Hd (fun w' (h:Below W.heap.size W w')=>Aw (A3 _ _ _ _ w' (hp.obs.bl' (Aa HBx.out.2.2 h)) (hq.obs.bl' (Aa HBx.out.2.2 h))) e9)
 have HC4:=Hd (fun w' (h:Below W.heap.size W w')=>Aw (Ap _ _ _ _ w' (hp.reco.bl' (Aa HBx.out.2.2 h)) (hq.reco.bl' (Aa HBx.out.2.2 h))) e10)
 have HC5:=Hd (fun w' (h:Below W.heap.size W w')=>Aw (Ap _ _ _ _ w' (hp.sup.bl' (Aa HBx.out.2.2 h)) (hq.sup.bl' (Aa HBx.out.2.2 h))) e11)
 have HC6:=Hd (fun w' (h:Below W.heap.size W w')=>Aw (Ap _ _ _ _ w' (hp.sug.bl' (Aa HBx.out.2.2 h)) (hq.sug.bl' (Aa HBx.out.2.2 h))) e12)
 have HC7:=Hd (fun w' (h:Below W.heap.size W w')=>Aw (Ap _ _ _ _ w' (hp.enh.bl' (Aa HBx.out.2.2 h)) (hq.enh.bl' (Aa HBx.out.2.2 h))) e13)
 clear hp hq
 clear e6
 clear e7
 clear e8
 clear e9
 clear e10
 clear e11
 clear e12
 clear e13
 subst e1
 subst e4
 go_enter Tryz.func54,Tryz.ntmps54
 go_wp2_with (first
  |(go_at_call 101;(with_reducible refine(HC0.out _ HDr.out).mono ?_);rintro e w0 ⟨rfl,hb⟩;have HDr:=Hd (Aa HDr.out hb);have hz1:=(HBx.out.1.below HDr.out HBx.out.1.lt).cell 7;have hz2:=(HBx.out.2.1.below HDr.out HBx.out.2.1.lt).cell 7;clear hb)
  |(go_at_call 102;(with_reducible refine(HC1.out _ HDr.out).mono ?_);rintro e w1 ⟨rfl,hb⟩;have HDr:=Hd (Aa HDr.out hb);have hz1:=(HBx.out.1.below HDr.out HBx.out.1.lt).cell 8;have hz2:=(HBx.out.2.1.below HDr.out HBx.out.2.1.lt).cell 8;clear hb)
  |(go_at_call 102;(with_reducible refine(HC2.out _ HDr.out).mono ?_);rintro e w2 ⟨rfl,hb⟩;have HDr:=Hd (Aa HDr.out hb);have hz1:=(HBx.out.1.below HDr.out HBx.out.1.lt).cell 9;have hz2:=(HBx.out.2.1.below HDr.out HBx.out.2.1.lt).cell 9;clear hb)
  |(go_at_call 101;(with_reducible refine(HC3.out _ HDr.out).mono ?_);rintro e w3 ⟨rfl,hb⟩;have HDr:=Hd (Aa HDr.out hb);have hz1:=(HBx.out.1.below HDr.out HBx.out.1.lt).cell 10;have hz2:=(HBx.out.2.1.below HDr.out HBx.out.2.1.lt).cell 10;clear hb)
  |(go_at_call 102;(with_reducible refine(HC4.out _ HDr.out).mono ?_);rintro e w4 ⟨rfl,hb⟩;have HDr:=Hd (Aa HDr.out hb);have hz1:=(HBx.out.1.below HDr.out HBx.out.1.lt).cell 11;have hz2:=(HBx.out.2.1.below HDr.out HBx.out.2.1.lt).cell 11;clear hb)
  |(go_at_call 102;(with_reducible refine(HC5.out _ HDr.out).mono ?_);rintro e w5 ⟨rfl,hb⟩;have HDr:=Hd (Aa HDr.out hb);have hz1:=(HBx.out.1.below HDr.out HBx.out.1.lt).cell 12;have hz2:=(HBx.out.2.1.below HDr.out HBx.out.2.1.lt).cell 12;clear hb)
  |(go_at_call 102;(with_reducible refine(HC6.out _ HDr.out).mono ?_);rintro e w6 ⟨rfl,hb⟩;have HDr:=Hd (Aa HDr.out hb);have hz1:=(HBx.out.1.below HDr.out HBx.out.1.lt).cell 13;have hz2:=(HBx.out.2.1.below HDr.out HBx.out.2.1.lt).cell 13;clear hb)
  |(go_at_call 102;(with_reducible refine(HC7.out _ HDr.out).mono ?_);rintro e w7 ⟨rfl,hb⟩;have HDr:=Hd (Aa HDr.out hb);clear hb)
  |fail)
 go_ret
 exact⟨Af HT2.out.symm,Aa HBx.out.2.2 HDr.out⟩
end Go.Proofs.YtdpjjnbelgaagaaGreatDoor
