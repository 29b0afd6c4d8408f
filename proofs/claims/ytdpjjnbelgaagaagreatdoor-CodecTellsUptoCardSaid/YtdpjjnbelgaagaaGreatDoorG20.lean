/- The document's reader: readPackage. Conditions: as each theorem names them. -/
import Derived.Test.YtdpjjnbelgaagaaGreatDoorG11
import Derived.Test.YtdpjjnbelgaagaaGreatDoorG19
namespace Go.Proofs.YtdpjjnbelgaagaaGreatDoor
set_option maxHeartbeats 32000000
open Go.ChangeShapes Go.WideShapes Go.ChangeAt Go.RowKit Go.Deep
set_option maxRecDepth 100000
theorem DC {g:Nat} {s:ByteArray} {at_:Nat} {e:Int} {w:World} (h:DR g s at_ e w):Calls Tryz.prog 58 #[.pointer (some ⟨g,0,none⟩)] w
 fun ret w'=>∃(p:Aq) (r:AE) (at2:Nat) (e2:Int),ret= .returned (p.val r)∧Ah (Am w.heap.size) w' p r∧DR g s at2 e2 w'∧Res Iz s at_ e p at2 e2∧Ae (·=g) w w':=by
 obtain⟨b,hb⟩:∃b,b=w.heap.size:=⟨_,rfl⟩
 obtain⟨w2,hw2⟩:∃w2,w2=(w.alloc (.cells Bq 29)).alloc (.cells Bq 29):=⟨_,rfl⟩
 have c1:(w.alloc (.cells Bq 29)).cell? ⟨g,1,none⟩=some (.int .i64 at_):=(h.below (Ag w (.cells Bq 29))).rb.cell 1
 have cl:=(h.below (Ag w (.cells Bq 29))).rb.lt
 have HAt:=Hd h.hat
 have HP2:=Hd (show PR w b (b+1) ⟨emp,0,emp,emp,0,emp,[],(ofL 0 []),(ofL 0 []),[],(ofL 0 []),(ofL 0 []),(ofL 0 []),(ofL 0 []),[]⟩ ⟨nV,nV,nV,nV,nV,nV,nV,nV,nV⟩ g s at_ e w2 from by
  have h1:=Ag w (.cells Bq 29)
  have h2:=Ag (w.alloc (.cells Bq 29)) (.cells Bq 29)
  have hB:=Aa h1 h2
  have k1:=Blk.new w 29 Bq
  have k2:=Blk.new (w.alloc (.cells Bq 29)) 29 Bq
  rw[World.size_alloc]at k2
  rw[hw2,hb]
  exact⟨h.below hB,k1.below h2 k1.lt,k2,OK _ _,Ae.of_below hB _,⟨h.rb.lt,Nat.le_refl _,Nat.lt_succ_self _,by simp⟩⟩)
 have HBx:=Hd hb
 clear h
 go_enter Tryz.func58,Tryz.ntmps58
 go_upto_region 3 with fail
 rw[←hw2,←hb]
 obtain⟨bx,hbx⟩:∃bx,bx=b+1:=⟨_,rfl⟩
 rw[←hbx]at HP2 ⊢
 clear hw2 hb hbx c1 cl
 have HC:=Hd (EZ HP2.out.ds 64 (by decide))
 go_upto_region 4 with (first
  |(go_at_call 105;(with_reducible refine HC.out.mono ?_);rintro rr w3 ⟨nm,a3,e3,rfl,hx,hs,hr,ht⟩;have HP3:=Hd (HP2.out.call hs ht);have HR3:=Hd hr;have HNm:=Hd hx;clear hx;clear hs hr ht;have y0:w3.cell? ⟨bx,0,none⟩=some (.string ⟨#[]⟩):=HP3.out.rx.cell 0;have yf0:w3.frozen? ⟨bx,0,none⟩=false:=HP3.out.rx.frozen 0;have yl:bx<w3.heap.size:=HP3.out.rx.lt)
  |fail)
 obtain⟨w4,hw⟩:∃w4,w4=w3.setCell ⟨bx,0,none⟩ (.string nm):=⟨_,rfl⟩
 have HP4:=Hd (show PR w b bx ⟨nm,0,emp,emp,0,emp,[],(ofL 0 []),(ofL 0 []),[],(ofL 0 []),(ofL 0 []),(ofL 0 []),(ofL 0 []),[]⟩ ⟨nV,nV,nV,nV,nV,nV,nV,nV,nV⟩ g s a3 e3 w4 from hw▸(PR.put (p':=⟨nm,0,emp,emp,0,emp,[],(ofL 0 []),(ofL 0 []),[],(ofL 0 []),(ofL 0 []),(ofL 0 []),(ofL 0 []),[]⟩) (r':=⟨nV,nV,nV,nV,nV,nV,nV,nV,nV⟩) HP3.out 0 (.string nm) rfl (HP3.out.inn.name_ (by have:=HNm.out;omega))))
 rw[←hw]
 clear hw HC HP2 HP3
 clear y0 yf0 yl
 have HC:=Hd (Fq HP4.out.ds)
 go_upto_region 5 with (first
  |(go_at_call 106;(with_reducible refine HC.out.mono ?_);rintro rr w5 ⟨ep,ver,rel,a5,e5,rfl,hx,hs,hr,ht⟩;have HP5:=Hd (HP4.out.call hs ht);have HR5:=Hd hr;have HEv:=Hd hx;clear hx;clear hs hr ht;have y1:w5.cell? ⟨bx,1,none⟩=some (.int .i64 0):=HP5.out.rx.cell 1;have yf1:w5.frozen? ⟨bx,1,none⟩=false:=HP5.out.rx.frozen 1;have y2:w5.cell? ⟨bx,2,none⟩=some (.string ⟨#[]⟩):=HP5.out.rx.cell 2;have yf2:w5.frozen? ⟨bx,2,none⟩=false:=HP5.out.rx.frozen 2;have y3:w5.cell? ⟨bx,3,none⟩=some (.string ⟨#[]⟩):=HP5.out.rx.cell 3;have yf3:w5.frozen? ⟨bx,3,none⟩=false:=HP5.out.rx.frozen 3;have yl:bx<w5.heap.size:=HP5.out.rx.lt)
  |fail)
 obtain⟨w6,hw⟩:∃w6,w6=((w5.setCell ⟨bx,1,none⟩ (.int .i64 ep)).setCell ⟨bx,2,none⟩ (.string ver)).setCell ⟨bx,3,none⟩ (.string rel):=⟨_,rfl⟩
 have HP6:=Hd (show PR w b bx ⟨nm,ep,ver,rel,0,emp,[],(ofL 0 []),(ofL 0 []),[],(ofL 0 []),(ofL 0 []),(ofL 0 []),(ofL 0 []),[]⟩ ⟨nV,nV,nV,nV,nV,nV,nV,nV,nV⟩ g s a5 e5 w6 from hw▸(PR.put (p':=⟨nm,ep,ver,rel,0,emp,[],(ofL 0 []),(ofL 0 []),[],(ofL 0 []),(ofL 0 []),(ofL 0 []),(ofL 0 []),[]⟩) (r':=⟨nV,nV,nV,nV,nV,nV,nV,nV,nV⟩) (PR.put (p':=⟨nm,ep,ver,emp,0,emp,[],(ofL 0 []),(ofL 0 []),[],(ofL 0 []),(ofL 0 []),(ofL 0 []),(ofL 0 []),[]⟩) (r':=⟨nV,nV,nV,nV,nV,nV,nV,nV,nV⟩) (PR.put (p':=⟨nm,ep,emp,emp,0,emp,[],(ofL 0 []),(ofL 0 []),[],(ofL 0 []),(ofL 0 []),(ofL 0 []),(ofL 0 []),[]⟩) (r':=⟨nV,nV,nV,nV,nV,nV,nV,nV,nV⟩) HP5.out 1 (.int .i64 ep) rfl (HP5.out.inn.ep_ ⟨HEv.out.1,HEv.out.2.1⟩)) 2 (.string ver) rfl ((PR.put (p':=⟨nm,ep,emp,emp,0,emp,[],(ofL 0 []),(ofL 0 []),[],(ofL 0 []),(ofL 0 []),(ofL 0 []),(ofL 0 []),[]⟩) (r':=⟨nV,nV,nV,nV,nV,nV,nV,nV,nV⟩) HP5.out 1 (.int .i64 ep) rfl (HP5.out.inn.ep_ ⟨HEv.out.1,HEv.out.2.1⟩)).inn.ver_ HEv.out.2.2.1)) 3 (.string rel) rfl ((PR.put (p':=⟨nm,ep,ver,emp,0,emp,[],(ofL 0 []),(ofL 0 []),[],(ofL 0 []),(ofL 0 []),(ofL 0 []),(ofL 0 []),[]⟩) (r':=⟨nV,nV,nV,nV,nV,nV,nV,nV,nV⟩) (PR.put (p':=⟨nm,ep,emp,emp,0,emp,[],(ofL 0 []),(ofL 0 []),[],(ofL 0 []),(ofL 0 []),(ofL 0 []),(ofL 0 []),[]⟩) (r':=⟨nV,nV,nV,nV,nV,nV,nV,nV,nV⟩) HP5.out 1 (.int .i64 ep) rfl (HP5.out.inn.ep_ ⟨HEv.out.1,HEv.out.2.1⟩)) 2 (.string ver) rfl ((PR.put (p':=⟨nm,ep,emp,emp,0,emp,[],(ofL 0 []),(ofL 0 []),[],(ofL 0 []),(ofL 0 []),(ofL 0 []),(ofL 0 []),[]⟩) (r':=⟨nV,nV,nV,nV,nV,nV,nV,nV,nV⟩) HP5.out 1 (.int .i64 ep) rfl (HP5.out.inn.ep_ ⟨HEv.out.1,HEv.out.2.1⟩)).inn.ver_ HEv.out.2.2.1)).inn.rel_ HEv.out.2.2.2)))
 rw[←hw]
 clear hw HC HP4 HP5
 clear y1 yf1 y2 yf2 y3 yf3 yl
 have HC:=Hd (DE HP6.out.ds 1 4 (by decide))
 go_upto_region 6 with (first
  |(go_at_call 57;(with_reducible refine HC.out.mono ?_);rintro rr w7 ⟨ar,a7,e7,rfl,har,hs,hr,ht,hl7,hz7⟩;have HP7:=Hd (HP6.out.call hs ht);have HR7:=Hd hr;clear hl7 hz7;have HAr:=Hd har;have hwr8:IntKind.u8.wrap (ar:Int)=(ar:Int):=(by(rw[IntKind.wrap_u8'];omega));clear hs hr ht;have y4:w7.cell? ⟨bx,4,none⟩=some (.int .u8 0):=HP7.out.rx.cell 4;have yf4:w7.frozen? ⟨bx,4,none⟩=false:=HP7.out.rx.frozen 4;have yl:bx<w7.heap.size:=HP7.out.rx.lt)
  |fail)
 obtain⟨w8,hw⟩:∃w8,w8=w7.setCell ⟨bx,4,none⟩ (.int .u8 (ar:Int)):=⟨_,rfl⟩
 have HP8:=Hd (show PR w b bx ⟨nm,ep,ver,rel,(ar:Int),emp,[],(ofL 0 []),(ofL 0 []),[],(ofL 0 []),(ofL 0 []),(ofL 0 []),(ofL 0 []),[]⟩ ⟨nV,nV,nV,nV,nV,nV,nV,nV,nV⟩ g s a7 e7 w8 from hw▸(PR.put (p':=⟨nm,ep,ver,rel,(ar:Int),emp,[],(ofL 0 []),(ofL 0 []),[],(ofL 0 []),(ofL 0 []),(ofL 0 []),(ofL 0 []),[]⟩) (r':=⟨nV,nV,nV,nV,nV,nV,nV,nV,nV⟩) HP7.out 4 (.int .u8 (ar:Int)) rfl (HP7.out.inn.arch_ (by have:=HAr.out;omega))))
 rw[←hw]
 clear hw HC HP6 HP7
 clear y4 yf4 yl
 have HC:=Hd (EZ HP8.out.ds 64 (by decide))
 go_upto_region 7 with (first
  |(go_at_call 105;(with_reducible refine HC.out.mono ?_);rintro rr w9 ⟨vd,a9,e9,rfl,hx,hs,hr,ht⟩;have HP9:=Hd (HP8.out.call hs ht);have HR9:=Hd hr;have HVd:=Hd hx;clear hx;clear hs hr ht;have y5:w9.cell? ⟨bx,5,none⟩=some (.string ⟨#[]⟩):=HP9.out.rx.cell 5;have yf5:w9.frozen? ⟨bx,5,none⟩=false:=HP9.out.rx.frozen 5;have yl:bx<w9.heap.size:=HP9.out.rx.lt)
  |fail)
 obtain⟨w10,hw⟩:∃w10,w10=w9.setCell ⟨bx,5,none⟩ (.string vd):=⟨_,rfl⟩
 have HP10:=Hd (show PR w b bx ⟨nm,ep,ver,rel,(ar:Int),vd,[],(ofL 0 []),(ofL 0 []),[],(ofL 0 []),(ofL 0 []),(ofL 0 []),(ofL 0 []),[]⟩ ⟨nV,nV,nV,nV,nV,nV,nV,nV,nV⟩ g s a9 e9 w10 from hw▸(PR.put (p':=⟨nm,ep,ver,rel,(ar:Int),vd,[],(ofL 0 []),(ofL 0 []),[],(ofL 0 []),(ofL 0 []),(ofL 0 []),(ofL 0 []),[]⟩) (r':=⟨nV,nV,nV,nV,nV,nV,nV,nV,nV⟩) HP9.out 5 (.string vd) rfl (HP9.out.inn.vendor_ (by have:=HVd.out;omega))))
 rw[←hw]
 clear hw HC HP8 HP9
 clear y5 yf5 yl
 have HC:=Hd (Ex HP10.out.ds)
 go_upto_region 8 with (first
  |(go_at_call 107;(with_reducible refine HC.out.mono ?_);rintro rr w11 ⟨pv,vpv,a11,e11,rfl,hlen,hl,hs,hr,ht⟩;have HP11:=Hd (HP10.out.call hs ht);have HR11:=Hd hr;obtain⟨cpv,qpv,rfl⟩:=hl.form;have HL11:=Hd (LIn.more (n:=bx+1) (by have:=HP10.out.lo;omega) hl);clear hl hlen;clear hs hr ht;have y6:w11.cell? ⟨bx,6,none⟩=some nV:=HP11.out.rx.cell 6;have yf6:w11.frozen? ⟨bx,6,none⟩=false:=HP11.out.rx.frozen 6;have yl:bx<w11.heap.size:=HP11.out.rx.lt)
  |fail)
 obtain⟨w12,hw⟩:∃w12,w12=w11.setCell ⟨bx,6,none⟩ (.slice cpv pv.length qpv):=⟨_,rfl⟩
 have HP12:=Hd (show PR w b bx ⟨nm,ep,ver,rel,(ar:Int),vd,pv,(ofL 0 []),(ofL 0 []),[],(ofL 0 []),(ofL 0 []),(ofL 0 []),(ofL 0 []),[]⟩ ⟨(.slice cpv pv.length qpv),nV,nV,nV,nV,nV,nV,nV,nV⟩ g s a11 e11 w12 from hw▸(PR.put (p':=⟨nm,ep,ver,rel,(ar:Int),vd,pv,(ofL 0 []),(ofL 0 []),[],(ofL 0 []),(ofL 0 []),(ofL 0 []),(ofL 0 []),[]⟩) (r':=⟨(.slice cpv pv.length qpv),nV,nV,nV,nV,nV,nV,nV,nV⟩) HP11.out 6 (.slice cpv pv.length qpv) rfl (HP11.out.inn.prov_ HL11.out)))
 rw[←hw]
 clear hw HC HP10 HP11
 clear y6 yf6 yl
 have HC:=Hd (Br HP12.out.ds)
 go_upto_region 9 with (first
  |(go_at_call 108;(with_reducible refine HC.out.mono ?_);rintro rr w13 ⟨rq,vrq,a13,e13,rfl,hl,hs,hr,ht⟩;have HP13:=Hd (HP12.out.call hs ht);have HR13:=Hd hr;obtain⟨crq,qrq,rfl⟩:=hl.form;have HL13:=Hd (LIn.more (n:=bx+1) (by have:=HP12.out.lo;omega) hl);clear hl;clear hs hr ht;have y7:w13.cell? ⟨bx,7,none⟩=some nV:=HP13.out.rx.cell 7;have yf7:w13.frozen? ⟨bx,7,none⟩=false:=HP13.out.rx.frozen 7;have yl:bx<w13.heap.size:=HP13.out.rx.lt)
  |fail)
 obtain⟨w14,hw⟩:∃w14,w14=w13.setCell ⟨bx,7,none⟩ (.slice crq (Ab rq).length qrq):=⟨_,rfl⟩
 have HP14:=Hd (show PR w b bx ⟨nm,ep,ver,rel,(ar:Int),vd,pv,rq,(ofL 0 []),[],(ofL 0 []),(ofL 0 []),(ofL 0 []),(ofL 0 []),[]⟩ ⟨(.slice cpv pv.length qpv),(.slice crq (Ab rq).length qrq),nV,nV,nV,nV,nV,nV,nV⟩ g s a13 e13 w14 from hw▸(PR.put (p':=⟨nm,ep,ver,rel,(ar:Int),vd,pv,rq,(ofL 0 []),[],(ofL 0 []),(ofL 0 []),(ofL 0 []),(ofL 0 []),[]⟩) (r':=⟨(.slice cpv pv.length qpv),(.slice crq (Ab rq).length qrq),nV,nV,nV,nV,nV,nV,nV⟩) HP13.out 7 (.slice crq (Ab rq).length qrq) rfl (HP13.out.inn.req_ HL13.out)))
 rw[←hw]
 clear hw HC HP12 HP13
 clear y7 yf7 yl
 have HC:=Hd (Br HP14.out.ds)
 go_upto_region 10 with (first
  |(go_at_call 108;(with_reducible refine HC.out.mono ?_);rintro rr w15 ⟨cn,vcn,a15,e15,rfl,hl,hs,hr,ht⟩;have HP15:=Hd (HP14.out.call hs ht);have HR15:=Hd hr;obtain⟨ccn,qcn,rfl⟩:=hl.form;have HL15:=Hd (LIn.more (n:=bx+1) (by have:=HP14.out.lo;omega) hl);clear hl;clear hs hr ht;have y8:w15.cell? ⟨bx,8,none⟩=some nV:=HP15.out.rx.cell 8;have yf8:w15.frozen? ⟨bx,8,none⟩=false:=HP15.out.rx.frozen 8;have yl:bx<w15.heap.size:=HP15.out.rx.lt)
  |fail)
 obtain⟨w16,hw⟩:∃w16,w16=w15.setCell ⟨bx,8,none⟩ (.slice ccn (Ab cn).length qcn):=⟨_,rfl⟩
 have HP16:=Hd (show PR w b bx ⟨nm,ep,ver,rel,(ar:Int),vd,pv,rq,cn,[],(ofL 0 []),(ofL 0 []),(ofL 0 []),(ofL 0 []),[]⟩ ⟨(.slice cpv pv.length qpv),(.slice crq (Ab rq).length qrq),(.slice ccn (Ab cn).length qcn),nV,nV,nV,nV,nV,nV⟩ g s a15 e15 w16 from hw▸(PR.put (p':=⟨nm,ep,ver,rel,(ar:Int),vd,pv,rq,cn,[],(ofL 0 []),(ofL 0 []),(ofL 0 []),(ofL 0 []),[]⟩) (r':=⟨(.slice cpv pv.length qpv),(.slice crq (Ab rq).length qrq),(.slice ccn (Ab cn).length qcn),nV,nV,nV,nV,nV,nV⟩) HP15.out 8 (.slice ccn (Ab cn).length qcn) rfl (HP15.out.inn.con_ HL15.out)))
 rw[←hw]
 clear hw HC HP14 HP15
 clear y8 yf8 yl
 have HC:=Hd (Ex HP16.out.ds)
 go_upto_region 11 with (first
  |(go_at_call 107;(with_reducible refine HC.out.mono ?_);rintro rr w17 ⟨ob,vob,a17,e17,rfl,hlen,hl,hs,hr,ht⟩;have HP17:=Hd (HP16.out.call hs ht);have HR17:=Hd hr;obtain⟨cob,qob,rfl⟩:=hl.form;have HL17:=Hd (LIn.more (n:=bx+1) (by have:=HP16.out.lo;omega) hl);clear hl hlen;clear hs hr ht;have y9:w17.cell? ⟨bx,9,none⟩=some nV:=HP17.out.rx.cell 9;have yf9:w17.frozen? ⟨bx,9,none⟩=false:=HP17.out.rx.frozen 9;have yl:bx<w17.heap.size:=HP17.out.rx.lt)
  |fail)
 obtain⟨w18,hw⟩:∃w18,w18=w17.setCell ⟨bx,9,none⟩ (.slice cob ob.length qob):=⟨_,rfl⟩
 have HP18:=Hd (show PR w b bx ⟨nm,ep,ver,rel,(ar:Int),vd,pv,rq,cn,ob,(ofL 0 []),(ofL 0 []),(ofL 0 []),(ofL 0 []),[]⟩ ⟨(.slice cpv pv.length qpv),(.slice crq (Ab rq).length qrq),(.slice ccn (Ab cn).length qcn),(.slice cob ob.length qob),nV,nV,nV,nV,nV⟩ g s a17 e17 w18 from hw▸(PR.put (p':=⟨nm,ep,ver,rel,(ar:Int),vd,pv,rq,cn,ob,(ofL 0 []),(ofL 0 []),(ofL 0 []),(ofL 0 []),[]⟩) (r':=⟨(.slice cpv pv.length qpv),(.slice crq (Ab rq).length qrq),(.slice ccn (Ab cn).length qcn),(.slice cob ob.length qob),nV,nV,nV,nV,nV⟩) HP17.out 9 (.slice cob ob.length qob) rfl (HP17.out.inn.obs_ HL17.out)))
 rw[←hw]
 clear hw HC HP16 HP17
 clear y9 yf9 yl
 have HC:=Hd (Br HP18.out.ds)
 go_upto_region 12 with (first
  |(go_at_call 108;(with_reducible refine HC.out.mono ?_);rintro rr w19 ⟨l0,vl0,a19,e19,rfl,hl,hs,hr,ht⟩;have HP19:=Hd (HP18.out.call hs ht);have HR19:=Hd hr;obtain⟨cl0,ql0,rfl⟩:=hl.form;have HL19:=Hd (LIn.more (n:=bx+1) (by have:=HP18.out.lo;omega) hl);clear hl;clear hs hr ht;have y10:w19.cell? ⟨bx,10,none⟩=some nV:=HP19.out.rx.cell 10;have yf10:w19.frozen? ⟨bx,10,none⟩=false:=HP19.out.rx.frozen 10;have yl:bx<w19.heap.size:=HP19.out.rx.lt)
  |fail)
 obtain⟨w20,hw⟩:∃w20,w20=w19.setCell ⟨bx,10,none⟩ (.slice cl0 (Ab l0).length ql0):=⟨_,rfl⟩
 have HP20:=Hd (show PR w b bx ⟨nm,ep,ver,rel,(ar:Int),vd,pv,rq,cn,ob,l0,(ofL 0 []),(ofL 0 []),(ofL 0 []),[]⟩ ⟨(.slice cpv pv.length qpv),(.slice crq (Ab rq).length qrq),(.slice ccn (Ab cn).length qcn),(.slice cob ob.length qob),(.slice cl0 (Ab l0).length ql0),nV,nV,nV,nV⟩ g s a19 e19 w20 from hw▸(PR.put (p':=⟨nm,ep,ver,rel,(ar:Int),vd,pv,rq,cn,ob,l0,(ofL 0 []),(ofL 0 []),(ofL 0 []),[]⟩) (r':=⟨(.slice cpv pv.length qpv),(.slice crq (Ab rq).length qrq),(.slice ccn (Ab cn).length qcn),(.slice cob ob.length qob),(.slice cl0 (Ab l0).length ql0),nV,nV,nV,nV⟩) HP19.out 10 (.slice cl0 (Ab l0).length ql0) rfl (HP19.out.inn.reco_ HL19.out)))
 rw[←hw]
 clear hw HC HP18 HP19
 clear y10 yf10 yl
 have HC:=Hd (Br HP20.out.ds)
 go_upto_region 13 with (first
  |(go_at_call 108;(with_reducible refine HC.out.mono ?_);rintro rr w21 ⟨l1,vl1,a21,e21,rfl,hl,hs,hr,ht⟩;have HP21:=Hd (HP20.out.call hs ht);have HR21:=Hd hr;obtain⟨cl1,ql1,rfl⟩:=hl.form;have HL21:=Hd (LIn.more (n:=bx+1) (by have:=HP20.out.lo;omega) hl);clear hl;clear hs hr ht;have y11:w21.cell? ⟨bx,11,none⟩=some nV:=HP21.out.rx.cell 11;have yf11:w21.frozen? ⟨bx,11,none⟩=false:=HP21.out.rx.frozen 11;have yl:bx<w21.heap.size:=HP21.out.rx.lt)
  |fail)
 obtain⟨w22,hw⟩:∃w22,w22=w21.setCell ⟨bx,11,none⟩ (.slice cl1 (Ab l1).length ql1):=⟨_,rfl⟩
 have HP22:=Hd (show PR w b bx ⟨nm,ep,ver,rel,(ar:Int),vd,pv,rq,cn,ob,l0,l1,(ofL 0 []),(ofL 0 []),[]⟩ ⟨(.slice cpv pv.length qpv),(.slice crq (Ab rq).length qrq),(.slice ccn (Ab cn).length qcn),(.slice cob ob.length qob),(.slice cl0 (Ab l0).length ql0),(.slice cl1 (Ab l1).length ql1),nV,nV,nV⟩ g s a21 e21 w22 from hw▸(PR.put (p':=⟨nm,ep,ver,rel,(ar:Int),vd,pv,rq,cn,ob,l0,l1,(ofL 0 []),(ofL 0 []),[]⟩) (r':=⟨(.slice cpv pv.length qpv),(.slice crq (Ab rq).length qrq),(.slice ccn (Ab cn).length qcn),(.slice cob ob.length qob),(.slice cl0 (Ab l0).length ql0),(.slice cl1 (Ab l1).length ql1),nV,nV,nV⟩) HP21.out 11 (.slice cl1 (Ab l1).length ql1) rfl (HP21.out.inn.sup_ HL21.out)))
 rw[←hw]
 clear hw HC HP20 HP21
 clear y11 yf11 yl
 have HC:=Hd (Br HP22.out.ds)
 go_upto_region 14 with (first
  |(go_at_call 108;(with_reducible refine HC.out.mono ?_);rintro rr w23 ⟨l2,vl2,a23,e23,rfl,hl,hs,hr,ht⟩;have HP23:=Hd (HP22.out.call hs ht);have HR23:=Hd hr;obtain⟨cl2,ql2,rfl⟩:=hl.form;have HL23:=Hd (LIn.more (n:=bx+1) (by have:=HP22.out.lo;omega) hl);clear hl;clear hs hr ht;have y12:w23.cell? ⟨bx,12,none⟩=some nV:=HP23.out.rx.cell 12;have yf12:w23.frozen? ⟨bx,12,none⟩=false:=HP23.out.rx.frozen 12;have yl:bx<w23.heap.size:=HP23.out.rx.lt)
  |fail)
 obtain⟨w24,hw⟩:∃w24,w24=w23.setCell ⟨bx,12,none⟩ (.slice cl2 (Ab l2).length ql2):=⟨_,rfl⟩
 have HP24:=Hd (show PR w b bx ⟨nm,ep,ver,rel,(ar:Int),vd,pv,rq,cn,ob,l0,l1,l2,(ofL 0 []),[]⟩ ⟨(.slice cpv pv.length qpv),(.slice crq (Ab rq).length qrq),(.slice ccn (Ab cn).length qcn),(.slice cob ob.length qob),(.slice cl0 (Ab l0).length ql0),(.slice cl1 (Ab l1).length ql1),(.slice cl2 (Ab l2).length ql2),nV,nV⟩ g s a23 e23 w24 from hw▸(PR.put (p':=⟨nm,ep,ver,rel,(ar:Int),vd,pv,rq,cn,ob,l0,l1,l2,(ofL 0 []),[]⟩) (r':=⟨(.slice cpv pv.length qpv),(.slice crq (Ab rq).length qrq),(.slice ccn (Ab cn).length qcn),(.slice cob ob.length qob),(.slice cl0 (Ab l0).length ql0),(.slice cl1 (Ab l1).length ql1),(.slice cl2 (Ab l2).length ql2),nV,nV⟩) HP23.out 12 (.slice cl2 (Ab l2).length ql2) rfl (HP23.out.inn.sug_ HL23.out)))
 rw[←hw]
 clear hw HC HP22 HP23
 clear y12 yf12 yl
 have HC:=Hd (Br HP24.out.ds)
 go_upto_region 15 with (first
  |(go_at_call 108;(with_reducible refine HC.out.mono ?_);rintro rr w25 ⟨l3,vl3,a25,e25,rfl,hl,hs,hr,ht⟩;have HP25:=Hd (HP24.out.call hs ht);have HR25:=Hd hr;obtain⟨cl3,ql3,rfl⟩:=hl.form;have HL25:=Hd (LIn.more (n:=bx+1) (by have:=HP24.out.lo;omega) hl);clear hl;clear hs hr ht;have y13:w25.cell? ⟨bx,13,none⟩=some nV:=HP25.out.rx.cell 13;have yf13:w25.frozen? ⟨bx,13,none⟩=false:=HP25.out.rx.frozen 13;have yl:bx<w25.heap.size:=HP25.out.rx.lt)
  |fail)
 obtain⟨w26,hw⟩:∃w26,w26=w25.setCell ⟨bx,13,none⟩ (.slice cl3 (Ab l3).length ql3):=⟨_,rfl⟩
 have HP26:=Hd (show PR w b bx ⟨nm,ep,ver,rel,(ar:Int),vd,pv,rq,cn,ob,l0,l1,l2,l3,[]⟩ ⟨(.slice cpv pv.length qpv),(.slice crq (Ab rq).length qrq),(.slice ccn (Ab cn).length qcn),(.slice cob ob.length qob),(.slice cl0 (Ab l0).length ql0),(.slice cl1 (Ab l1).length ql1),(.slice cl2 (Ab l2).length ql2),(.slice cl3 (Ab l3).length ql3),nV⟩ g s a25 e25 w26 from hw▸(PR.put (p':=⟨nm,ep,ver,rel,(ar:Int),vd,pv,rq,cn,ob,l0,l1,l2,l3,[]⟩) (r':=⟨(.slice cpv pv.length qpv),(.slice crq (Ab rq).length qrq),(.slice ccn (Ab cn).length qcn),(.slice cob ob.length qob),(.slice cl0 (Ab l0).length ql0),(.slice cl1 (Ab l1).length ql1),(.slice cl2 (Ab l2).length ql2),(.slice cl3 (Ab l3).length ql3),nV⟩) HP25.out 13 (.slice cl3 (Ab l3).length ql3) rfl (HP25.out.inn.enh_ HL25.out)))
 rw[←hw]
 clear hw HC HP24 HP25
 clear y13 yf13 yl
 have HBd:=Hd (show∀l a e1,Res (Cd 0 32 (B6 64)) s a25 e25 l a e1→Res Gi s at_ e ⟨nm,ep,ver,rel,(ar:Int),vd,pv,rq,cn,ob,l0,l1,l2,l3,l⟩ a e1 from fun l a e1 h=>Al HR3.out (Al HR5.out (Al HR7.out (Al HR9.out (Al HR11.out (Al HR13.out (Al HR15.out (Al HR17.out (Al HR19.out (Al HR21.out (Al HR23.out (Al HR25.out (Al h (A5 _))))))))))))))
 clear HR3 HR5 HR7 HR9 HR11 HR13 HR15 HR17 HR19 HR21 HR23 HR25
 have HC:=Hd (DE HP26.out.ds 0 32 (by decide))
 obtain⟨iD,hiD,hz0,hz1,hz2⟩:=QY
 go_wp2_with (first
  |(go_at_call 57;(with_reducible refine HC.out.mono ?_);rintro rr ws ⟨n,az,ez,rfl,hn,hs,hr,ht,hl7,hz7⟩;have HPs:=Hd (HP26.out.call hs ht);have HG:=Hd (DGo.start (p:=B6 64) hr);clear hs hr ht hl7 hz7)
  |fail)
 have HF0:=Hd (show FS ws b bx #[.string nm,.int .i64 ep,.string ver,.string rel,.int .u8 (ar:Int),.string vd,.slice cpv pv.length qpv,.slice crq (Ab rq).length qrq,.slice ccn (Ab cn).length qcn,.slice cob ob.length qob,.slice cl0 (Ab l0).length ql0,.slice cl1 (Ab l1).length ql1,.slice cl2 (Ab l2).length ql2,.slice cl3 (Ab l3).length ql3,.slice none 0 0] g s az ez ws from⟨HPs.out.ds,HPs.out.rz,HPs.out.rx,Ae.refl _ _,by have:=HPs.out.lo;omega⟩)
 clear HC HP26
 go_loopw [6] (fun i wr=>∃(j:Nat) (l:List ByteArray) (ao:Option Addr) (cp a:Nat) (e1:Int),j≤n∧i= .int .i64 j∧l.length=j∧Hid (FS ws b bx #[.string nm,.int .i64 ep,.string ver,.string rel,.int .u8 (ar:Int),.string vd,.slice cpv pv.length qpv,.slice crq (Ab rq).length qrq,.slice ccn (Ab cn).length qcn,.slice cob ob.length qob,.slice cl0 (Ab l0).length ql0,.slice cl1 (Ab l1).length ql1,.slice cl2 (Ab l2).length ql2,.slice cl3 (Ab l3).length ql3,.slice ao j cp] g s a e1 wr∧Acc A2 9 ws.heap.size wr l (.slice ao j cp)∧DGo (B6 64) 0 32 s a25 e25 n j l a e1)) (fun i _=>n-(intOf i).toNat)
 case atStart=>exact⟨0,[],none,0,az,ez,by omega,rfl,rfl,Hd ⟨HF0.out,Acc.nil _ _ _ _,HG.out⟩⟩
 case round=>
  clear HG HF0
  obtain⟨j,l,ao,cp,a,e1,hj,rfl,hl,HQ⟩:=hrel
  have HLe:=Hd hl
  clear hl
  have c2:wr.cell? ⟨g,2,none⟩=some (.int .i64 e1):=HQ.out.1.ds.rb.cell 2
  have cl:=HQ.out.1.ds.rb.lt
  have y14:wr.cell? ⟨bx,14,none⟩=some (.slice ao j cp):=HQ.out.1.rx.cell 14
  have yf14:wr.frozen? ⟨bx,14,none⟩=false:=HQ.out.1.rx.frozen 14
  have yl:=HQ.out.1.rx.lt
  by_cases hgo:j<n∧e1=0
  ·obtain⟨hlt,rfl⟩:=hgo
   have hji:(j:Int)<(n:Int):=by omega
   have HLt:=Hd hlt
   have HM:=Hd (fun w' (hb:Below wr.heap.size wr w')=>EZ (HQ.out.1.ds.below hb) 64 (by decide))
   obtain⟨xs,hown,hone⟩:=HQ.out.2.1.own
   rw[HLe.out]at hown
   have HO4:=Hd hown
   have HN4:=Hd hone
   have HLo:=Hd (show∀q,(Value.slice ao j cp).ownBlock=some q→ws.heap.size≤q∧q<wr.heap.size from fun q hq=>by
    obtain⟨ps,_,h2,h3,_⟩:=HQ.out.2.1.ex
    exact⟨h3 q hq,h2.lt q hq⟩)
   have HGt:=Hd (show g<ws.heap.size∧ws.heap.size≤wr.heap.size∧bx<ws.heap.size from⟨by have:=HQ.out.1.lo;omega,HQ.out.1.tt.size,HQ.out.1.lo.2.2⟩)
   have HDr:=Hd (show Below wr.heap.size wr wr.drew from(Below.refl _ wr).drew)
   have q5:wr.drew.cell? ⟨bx,14,none⟩=some (.slice ao j cp):=y14
   clear hown hone hlt
   go_upto_region 19 with fail
   rw[show Op.load 27 (Operand.tmp 62)=ldF 62 from rfl]
   go_region_held3 (fun _=>True) (exact trivial)
    ((first
      |(go_at_call 105;(with_reducible refine(HM.out _ HDr.out).mono ?_);rintro rr w6 ⟨x,a4,e4,rfl,hx6,hs6,hr6,ht6⟩;have HX8:=Hd ((HQ.out.1.below HDr.out).call hs6 ht6);have HT8:=Hd ((Ae.of_below HDr.out (·=g)).trans ht6 fun _ _ h=>h);have HH8:=Hd hx6;have HG8:=Hd (HQ.out.2.2.step HLt.out hr6);have q6:w6.cell? ⟨bx,14,none⟩=some (.slice ao j cp):=HX8.out.rx.cell 14;have q7:(w6.alloc (.cells #[.string x] 9)).cell? ⟨bx,14,none⟩=some (.slice ao j cp):=(HX8.out.below (Ag _ _)).rx.cell 14;clear hx6 hs6 hr6 ht6)
      |(refine BI _ (by rfl) (.tmp 63) (.tmp 66) _ _ (by rfl) 9 iD _ 1 16 Tryz.underlying27 hiD hz0 hz1 hz2 rfl (by omega) (.slice ao j cp) j xs (by rfl) ((HO4.out.touch HT8.out fun q hq hg=>by have:=(HLo.out q hq).1;have:=HGt.out;omega).alloc _) HN4.out (.slice (some ⟨w6.heap.size,0,none⟩) 1 1) 1 [.string x] (by rfl) (FP w6 Tryz.underlying27 9 (.string x) rfl) (by simp only[maxLen];omega) (by omega) ?_;intro ao2 cap2 w10 hn2 hm2 hown2 hg2 hat2 hlt2;have HP:=Hd (FS.push (x:=x) (l:=l) (v':= .slice ao2 (j+1) cap2) (m0:=wr.heap.size) (xs:=xs) (HX8.out.below (Ag w6 (.cells #[.string x] 9))) (Py HQ.out.2.1 (HT8.out.trans (Ae.of_below (Ag w6 (.cells #[.string x] 9)) _) fun _ _ h=>h) (fun k hk=>by have:=HGt.out;omega)) (HLe.out.symm▸(HO4.out.touch HT8.out fun q hq hg=>by have:=(HLo.out q hq).1;have:=HGt.out;omega).alloc _) HGt.out.2.1 (fun q hq=>(HLo.out q hq).2) (by have:=HH8.out;omega) (by rw[HLe.out];exact hown2) hg2 hat2);have c10:w10.cell? ⟨bx,14,none⟩=some (.slice ao j cp):=HP.out.1.rx.cell 14;have f10:w10.frozen? ⟨bx,14,none⟩=false:=HP.out.1.rx.frozen 14;have l10:bx<w10.heap.size:=HP.out.1.rx.lt;clear hown2 hg2 hat2 hlt2 hn2 hm2)))
   all_goals
    have HS10:=Hd (HP.out.1.set 14 (.slice ao2 (j+1) cap2))
    have HA10:=Hd (NW (bx:=bx) (i:=14) (u:= .slice ao2 (j+1) cap2) HP.out.2 HGt.out.2.2)
    go_wp2_with fail
    go_roundw
    case rel=>exact⟨j+1,l++ [x],ao2,cap2,a4,e4,HLt.out,by go_num,by rw[List.length_append,HLe.out];rfl,Hd ⟨HS10.out,HA10.out,HG8.out⟩⟩
    case measure=>have:=HLt.out;simp[intOf];omega
  ·have hdis:¬(j:Int)<(n:Int)∨((j:Int)<(n:Int)∧(e1==0)=false):=by
    by_cases hlt:j<n
    ·exact .inr ⟨by omega,by simp;exact fun h=>hgo ⟨hlt,h⟩⟩
    ·exact .inl (by omega)
   have HRb:=Hd (HBd.out l a e1 (by
    by_cases he:e1=0
    ·obtain rfl:j=n:=by
      have:¬j<n:=fun h=>hgo ⟨h,he⟩
      omega
     exact HQ.out.2.2.done
    ·exact HQ.out.2.2.bad he))
   have hj32:j≤32:=by omega
   have HPe:=Hd (show PR w b bx ⟨nm,ep,ver,rel,(ar:Int),vd,pv,rq,cn,ob,l0,l1,l2,l3,l⟩ ⟨(.slice cpv pv.length qpv),(.slice crq (Ab rq).length qrq),(.slice ccn (Ab cn).length qcn),(.slice cob ob.length qob),(.slice cl0 (Ab l0).length ql0),(.slice cl1 (Ab l1).length ql1),(.slice cl2 (Ab l2).length ql2),(.slice cl3 (Ab l3).length ql3),(.slice ao j cp)⟩ g s a e1 wr from HQ.out.1.back HPs.out HQ.out.2.1 (by rw[HLe.out];exact hj32) rfl)
   clear hgo HQ
   clear y14 yf14 yl
   by_cases he:e1=0
   ·subst he
    have hji:¬(j:Int)<(n:Int):=by
     rcases hdis with h|⟨_,h⟩
     ·exact h
     ·cases h
    have HM:=Hd (show Calls Tryz.prog 49 #[.agg #[.string nm,.int .i64 ep,.string ver,.string rel,.int .u8 (ar:Int),.string vd,.slice cpv pv.length qpv,.slice crq (Ab rq).length qrq,.slice ccn (Ab cn).length qcn,.slice cob ob.length qob,.slice cl0 (Ab l0).length ql0,.slice cl1 (Ab l1).length ql1,.slice cl2 (Ab l2).length ql2,.slice cl3 (Ab l3).length ql3,.slice ao j cp]] wr (fun e w'=>e= .returned (.bool (A9 ⟨nm,ep,ver,rel,(ar:Int),vd,pv,rq,cn,ob,l0,l1,l2,l3,l⟩))∧Below wr.heap.size wr w')from Ej ⟨nm,ep,ver,rel,(ar:Int),vd,pv,rq,cn,ob,l0,l1,l2,l3,l⟩ ⟨(.slice cpv pv.length qpv),(.slice crq (Ab rq).length qrq),(.slice ccn (Ab cn).length qcn),(.slice cob ob.length qob),(.slice cl0 (Ab l0).length ql0),(.slice cl1 (Ab l1).length ql1),(.slice cl2 (Ab l2).length ql2),(.slice cl3 (Ab l3).length ql3),(.slice ao j cp)⟩ wr (Ah.keep (B':=Ai) HPe.out.inn (Nat.le_refl _) fun _ _ _=>⟨rfl,trivial⟩) (Kb (Kn HRb.out)))
    have HQ5:=Hd (Jd (H2 0) HRb.out HAt.out)
    clear hdis
    have y0:wr.cell? ⟨bx,0,none⟩=some (.string nm):=HPe.out.rx.cell 0
    have y1:wr.cell? ⟨bx,1,none⟩=some (.int .i64 ep):=HPe.out.rx.cell 1
    have y2:wr.cell? ⟨bx,2,none⟩=some (.string ver):=HPe.out.rx.cell 2
    have y3:wr.cell? ⟨bx,3,none⟩=some (.string rel):=HPe.out.rx.cell 3
    have y4:wr.cell? ⟨bx,4,none⟩=some (.int .u8 (ar:Int)):=HPe.out.rx.cell 4
    have y5:wr.cell? ⟨bx,5,none⟩=some (.string vd):=HPe.out.rx.cell 5
    have y6:wr.cell? ⟨bx,6,none⟩=some (.slice cpv pv.length qpv):=HPe.out.rx.cell 6
    have y7:wr.cell? ⟨bx,7,none⟩=some (.slice crq (Ab rq).length qrq):=HPe.out.rx.cell 7
    have y8:wr.cell? ⟨bx,8,none⟩=some (.slice ccn (Ab cn).length qcn):=HPe.out.rx.cell 8
    have y9:wr.cell? ⟨bx,9,none⟩=some (.slice cob ob.length qob):=HPe.out.rx.cell 9
    have y10:wr.cell? ⟨bx,10,none⟩=some (.slice cl0 (Ab l0).length ql0):=HPe.out.rx.cell 10
    have y11:wr.cell? ⟨bx,11,none⟩=some (.slice cl1 (Ab l1).length ql1):=HPe.out.rx.cell 11
    have y12:wr.cell? ⟨bx,12,none⟩=some (.slice cl2 (Ab l2).length ql2):=HPe.out.rx.cell 12
    have y13:wr.cell? ⟨bx,13,none⟩=some (.slice cl3 (Ab l3).length ql3):=HPe.out.rx.cell 13
    have y14:wr.cell? ⟨bx,14,none⟩=some (.slice ao j cp):=HPe.out.rx.cell 14
    have yl:bx<wr.heap.size:=HPe.out.rx.lt
    have HBz:=Hd HPe.out.rz
    by_cases hm:A9 ⟨nm,ep,ver,rel,(ar:Int),vd,pv,rq,cn,ob,l0,l1,l2,l3,l⟩=true
    ·have HM1:=Hd (HM.out.mono (R':=fun e w'=>e= .returned (.bool true)∧Below wr.heap.size wr w') fun r w' ⟨h1,h2⟩=>⟨by rw[h1,hm],h2⟩)
     have Hm:=Hd hm
     clear HM hm
     go_wp2_with (first
      |(go_at_call 49;(with_reducible refine HM1.out.mono ?_);rintro rr w24 ⟨rfl,hb⟩;have HP24:=Hd (HPe.out.below hb);clear hb;clear y0 y1 y2 y3 y4 y5 y6 y7 y8 y9 y10 y11 y12 y13 y14 yl HBz;have y0:w24.cell? ⟨bx,0,none⟩=some (.string nm):=HP24.out.rx.cell 0;have y1:w24.cell? ⟨bx,1,none⟩=some (.int .i64 ep):=HP24.out.rx.cell 1;have y2:w24.cell? ⟨bx,2,none⟩=some (.string ver):=HP24.out.rx.cell 2;have y3:w24.cell? ⟨bx,3,none⟩=some (.string rel):=HP24.out.rx.cell 3;have y4:w24.cell? ⟨bx,4,none⟩=some (.int .u8 (ar:Int)):=HP24.out.rx.cell 4;have y5:w24.cell? ⟨bx,5,none⟩=some (.string vd):=HP24.out.rx.cell 5;have y6:w24.cell? ⟨bx,6,none⟩=some (.slice cpv pv.length qpv):=HP24.out.rx.cell 6;have y7:w24.cell? ⟨bx,7,none⟩=some (.slice crq (Ab rq).length qrq):=HP24.out.rx.cell 7;have y8:w24.cell? ⟨bx,8,none⟩=some (.slice ccn (Ab cn).length qcn):=HP24.out.rx.cell 8;have y9:w24.cell? ⟨bx,9,none⟩=some (.slice cob ob.length qob):=HP24.out.rx.cell 9;have y10:w24.cell? ⟨bx,10,none⟩=some (.slice cl0 (Ab l0).length ql0):=HP24.out.rx.cell 10;have y11:w24.cell? ⟨bx,11,none⟩=some (.slice cl1 (Ab l1).length ql1):=HP24.out.rx.cell 11;have y12:w24.cell? ⟨bx,12,none⟩=some (.slice cl2 (Ab l2).length ql2):=HP24.out.rx.cell 12;have y13:w24.cell? ⟨bx,13,none⟩=some (.slice cl3 (Ab l3).length ql3):=HP24.out.rx.cell 13;have y14:w24.cell? ⟨bx,14,none⟩=some (.slice ao j cp):=HP24.out.rx.cell 14;have yl:bx<w24.heap.size:=HP24.out.rx.lt;have HBz:=Hd HP24.out.rz)
      |(refine wpList_store_rowTo rfl 29 (.tmp 2) (.tmp 82) rfl rfl b #[.string nm,.int .i64 ep,.string ver,.string rel,.int .u8 (ar:Int),.string vd,.slice cpv pv.length qpv,.slice crq (Ab rq).length qrq,.slice ccn (Ab cn).length qcn,.slice cob ob.length qob,.slice cl0 (Ab l0).length ql0,.slice cl1 (Ab l1).length ql1,.slice cl2 (Ab l2).length ql2,.slice cl3 (Ab l3).length ql3,.slice ao j cp] rfl (by kernel_rfl) 29 _ HBz.out (by kernel_rfl) rfl (by kernel_rfl) ?_)
      |fail)
     obtain⟨q1,q2,q3,q4⟩:=PR.done HP24.out
     first
      |exact bodyPost_ret (results_cell_row rfl _ _ b 29 _ (0,0) _ rfl q1 Tryz.underlying29 rfl (by kernel_rfl)) rfl ⟨⟨nm,ep,ver,rel,(ar:Int),vd,pv,rq,cn,ob,l0,l1,l2,l3,l⟩,⟨(.slice cpv pv.length qpv),(.slice crq (Ab rq).length qrq),(.slice ccn (Ab cn).length qcn),(.slice cob ob.length qob),(.slice cl0 (Ab l0).length ql0),(.slice cl1 (Ab l1).length ql1),(.slice cl2 (Ab l2).length ql2),(.slice cl3 (Ab l3).length ql3),(.slice ao j cp)⟩,a,0,rfl,q2,q3,BO HRb.out (by rw[if_pos Hm.out];exact A5 _),q4⟩
      |exact bodyPost_ret (results_cell_row rfl _ _ b 29 _ (0,0) _ rfl q1 Tryz.underlying29 rfl (by kernel_rfl)) rfl ⟨⟨nm,ep,ver,rel,(ar:Int),vd,pv,rq,cn,ob,l0,l1,l2,l3,l⟩,⟨(.slice cpv pv.length qpv),(.slice crq (Ab rq).length qrq),(.slice ccn (Ab cn).length qcn),(.slice cob ob.length qob),(.slice cl0 (Ab l0).length ql0),(.slice cl1 (Ab l1).length ql1),(.slice cl2 (Ab l2).length ql2),(.slice cl3 (Ab l3).length ql3),(.slice ao j cp)⟩,rfl,q2,a,0,q3,BO HRb.out (by rw[if_pos Hm.out];exact A5 _),q4⟩
    ·have HM1:=Hd (HM.out.mono (R':=fun e w'=>e= .returned (.bool false)∧Below wr.heap.size wr w') fun r w' ⟨h1,h2⟩=>⟨by rw[h1,(Bool.not_eq_true _).mp hm],h2⟩)
     have Hm:=Hd hm
     clear HM hm
     go_wp2_with (first
      |(go_at_call 49;(with_reducible refine HM1.out.mono ?_);rintro rr w24 ⟨rfl,hb⟩;have HP24:=Hd (HPe.out.below hb);clear hb;have HFl:=Hd (H6 HP24.out.ds at_ HQ5.out 4 (by decide)))
      |(go_at_call 109;(with_reducible refine HFl.out.mono ?_);rintro rr w25 ⟨rfl,hs6,ht6⟩;have HP25:=Hd (HP24.out.call hs6 ht6);clear hs6 ht6;clear y0 y1 y2 y3 y4 y5 y6 y7 y8 y9 y10 y11 y12 y13 y14 yl HBz;have y0:w25.cell? ⟨bx,0,none⟩=some (.string nm):=HP25.out.rx.cell 0;have y1:w25.cell? ⟨bx,1,none⟩=some (.int .i64 ep):=HP25.out.rx.cell 1;have y2:w25.cell? ⟨bx,2,none⟩=some (.string ver):=HP25.out.rx.cell 2;have y3:w25.cell? ⟨bx,3,none⟩=some (.string rel):=HP25.out.rx.cell 3;have y4:w25.cell? ⟨bx,4,none⟩=some (.int .u8 (ar:Int)):=HP25.out.rx.cell 4;have y5:w25.cell? ⟨bx,5,none⟩=some (.string vd):=HP25.out.rx.cell 5;have y6:w25.cell? ⟨bx,6,none⟩=some (.slice cpv pv.length qpv):=HP25.out.rx.cell 6;have y7:w25.cell? ⟨bx,7,none⟩=some (.slice crq (Ab rq).length qrq):=HP25.out.rx.cell 7;have y8:w25.cell? ⟨bx,8,none⟩=some (.slice ccn (Ab cn).length qcn):=HP25.out.rx.cell 8;have y9:w25.cell? ⟨bx,9,none⟩=some (.slice cob ob.length qob):=HP25.out.rx.cell 9;have y10:w25.cell? ⟨bx,10,none⟩=some (.slice cl0 (Ab l0).length ql0):=HP25.out.rx.cell 10;have y11:w25.cell? ⟨bx,11,none⟩=some (.slice cl1 (Ab l1).length ql1):=HP25.out.rx.cell 11;have y12:w25.cell? ⟨bx,12,none⟩=some (.slice cl2 (Ab l2).length ql2):=HP25.out.rx.cell 12;have y13:w25.cell? ⟨bx,13,none⟩=some (.slice cl3 (Ab l3).length ql3):=HP25.out.rx.cell 13;have y14:w25.cell? ⟨bx,14,none⟩=some (.slice ao j cp):=HP25.out.rx.cell 14;have yl:bx<w25.heap.size:=HP25.out.rx.lt;have HBz:=Hd HP25.out.rz)
      |(refine wpList_store_rowTo rfl 29 (.tmp 2) (.tmp 82) rfl rfl b #[.string nm,.int .i64 ep,.string ver,.string rel,.int .u8 (ar:Int),.string vd,.slice cpv pv.length qpv,.slice crq (Ab rq).length qrq,.slice ccn (Ab cn).length qcn,.slice cob ob.length qob,.slice cl0 (Ab l0).length ql0,.slice cl1 (Ab l1).length ql1,.slice cl2 (Ab l2).length ql2,.slice cl3 (Ab l3).length ql3,.slice ao j cp] rfl (by kernel_rfl) 29 _ HBz.out (by kernel_rfl) rfl (by kernel_rfl) ?_)
      |fail)
     obtain⟨q1,q2,q3,q4⟩:=PR.done HP25.out
     first
      |exact bodyPost_ret (results_cell_row rfl _ _ b 29 _ (0,0) _ rfl q1 Tryz.underlying29 rfl (by kernel_rfl)) rfl ⟨⟨nm,ep,ver,rel,(ar:Int),vd,pv,rq,cn,ob,l0,l1,l2,l3,l⟩,⟨(.slice cpv pv.length qpv),(.slice crq (Ab rq).length qrq),(.slice ccn (Ab cn).length qcn),(.slice cob ob.length qob),(.slice cl0 (Ab l0).length ql0),(.slice cl1 (Ab l1).length ql1),(.slice cl2 (Ab l2).length ql2),(.slice cl3 (Ab l3).length ql3),(.slice ao j cp)⟩,at_,4,rfl,q2,q3,BO HRb.out (by rw[if_neg Hm.out];exact .inr ⟨rfl,.inr ⟨rfl,by decide⟩⟩),q4⟩
      |exact bodyPost_ret (results_cell_row rfl _ _ b 29 _ (0,0) _ rfl q1 Tryz.underlying29 rfl (by kernel_rfl)) rfl ⟨⟨nm,ep,ver,rel,(ar:Int),vd,pv,rq,cn,ob,l0,l1,l2,l3,l⟩,⟨(.slice cpv pv.length qpv),(.slice crq (Ab rq).length qrq),(.slice ccn (Ab cn).length qcn),(.slice cob ob.length qob),(.slice cl0 (Ab l0).length ql0),(.slice cl1 (Ab l1).length ql1),(.slice cl2 (Ab l2).length ql2),(.slice cl3 (Ab l3).length ql3),(.slice ao j cp)⟩,rfl,q2,at_,4,q3,BO HRb.out (by rw[if_neg Hm.out];exact .inr ⟨rfl,.inr ⟨rfl,by decide⟩⟩),q4⟩
   ·have heb:(e1==0)=false:=by simpa using he
    have He:=Hd he
    clear he
    have y0:wr.cell? ⟨bx,0,none⟩=some (.string nm):=HPe.out.rx.cell 0
    have y1:wr.cell? ⟨bx,1,none⟩=some (.int .i64 ep):=HPe.out.rx.cell 1
    have y2:wr.cell? ⟨bx,2,none⟩=some (.string ver):=HPe.out.rx.cell 2
    have y3:wr.cell? ⟨bx,3,none⟩=some (.string rel):=HPe.out.rx.cell 3
    have y4:wr.cell? ⟨bx,4,none⟩=some (.int .u8 (ar:Int)):=HPe.out.rx.cell 4
    have y5:wr.cell? ⟨bx,5,none⟩=some (.string vd):=HPe.out.rx.cell 5
    have y6:wr.cell? ⟨bx,6,none⟩=some (.slice cpv pv.length qpv):=HPe.out.rx.cell 6
    have y7:wr.cell? ⟨bx,7,none⟩=some (.slice crq (Ab rq).length qrq):=HPe.out.rx.cell 7
    have y8:wr.cell? ⟨bx,8,none⟩=some (.slice ccn (Ab cn).length qcn):=HPe.out.rx.cell 8
    have y9:wr.cell? ⟨bx,9,none⟩=some (.slice cob ob.length qob):=HPe.out.rx.cell 9
    have y10:wr.cell? ⟨bx,10,none⟩=some (.slice cl0 (Ab l0).length ql0):=HPe.out.rx.cell 10
    have y11:wr.cell? ⟨bx,11,none⟩=some (.slice cl1 (Ab l1).length ql1):=HPe.out.rx.cell 11
    have y12:wr.cell? ⟨bx,12,none⟩=some (.slice cl2 (Ab l2).length ql2):=HPe.out.rx.cell 12
    have y13:wr.cell? ⟨bx,13,none⟩=some (.slice cl3 (Ab l3).length ql3):=HPe.out.rx.cell 13
    have y14:wr.cell? ⟨bx,14,none⟩=some (.slice ao j cp):=HPe.out.rx.cell 14
    have yl:bx<wr.heap.size:=HPe.out.rx.lt
    have HBz:=Hd HPe.out.rz
    rcases hdis with h1|⟨h1,_⟩
    ·go_wp2_with (first
      |(refine wpList_store_rowTo rfl 29 (.tmp 2) (.tmp 82) rfl rfl b #[.string nm,.int .i64 ep,.string ver,.string rel,.int .u8 (ar:Int),.string vd,.slice cpv pv.length qpv,.slice crq (Ab rq).length qrq,.slice ccn (Ab cn).length qcn,.slice cob ob.length qob,.slice cl0 (Ab l0).length ql0,.slice cl1 (Ab l1).length ql1,.slice cl2 (Ab l2).length ql2,.slice cl3 (Ab l3).length ql3,.slice ao j cp] rfl (by kernel_rfl) 29 _ HBz.out (by kernel_rfl) rfl (by kernel_rfl) ?_)
      |fail)
     obtain⟨q1,q2,q3,q4⟩:=PR.done HPe.out
     first
      |exact bodyPost_ret (results_cell_row rfl _ _ b 29 _ (0,0) _ rfl q1 Tryz.underlying29 rfl (by kernel_rfl)) rfl ⟨⟨nm,ep,ver,rel,(ar:Int),vd,pv,rq,cn,ob,l0,l1,l2,l3,l⟩,⟨(.slice cpv pv.length qpv),(.slice crq (Ab rq).length qrq),(.slice ccn (Ab cn).length qcn),(.slice cob ob.length qob),(.slice cl0 (Ab l0).length ql0),(.slice cl1 (Ab l1).length ql1),(.slice cl2 (Ab l2).length ql2),(.slice cl3 (Ab l3).length ql3),(.slice ao j cp)⟩,a,e1,rfl,q2,q3,BO HRb.out (.inl ⟨He.out,rfl,rfl⟩),q4⟩
      |exact bodyPost_ret (results_cell_row rfl _ _ b 29 _ (0,0) _ rfl q1 Tryz.underlying29 rfl (by kernel_rfl)) rfl ⟨⟨nm,ep,ver,rel,(ar:Int),vd,pv,rq,cn,ob,l0,l1,l2,l3,l⟩,⟨(.slice cpv pv.length qpv),(.slice crq (Ab rq).length qrq),(.slice ccn (Ab cn).length qcn),(.slice cob ob.length qob),(.slice cl0 (Ab l0).length ql0),(.slice cl1 (Ab l1).length ql1),(.slice cl2 (Ab l2).length ql2),(.slice cl3 (Ab l3).length ql3),(.slice ao j cp)⟩,rfl,q2,a,e1,q3,BO HRb.out (.inl ⟨He.out,rfl,rfl⟩),q4⟩
    ·go_wp2_with (first
      |(refine wpList_store_rowTo rfl 29 (.tmp 2) (.tmp 82) rfl rfl b #[.string nm,.int .i64 ep,.string ver,.string rel,.int .u8 (ar:Int),.string vd,.slice cpv pv.length qpv,.slice crq (Ab rq).length qrq,.slice ccn (Ab cn).length qcn,.slice cob ob.length qob,.slice cl0 (Ab l0).length ql0,.slice cl1 (Ab l1).length ql1,.slice cl2 (Ab l2).length ql2,.slice cl3 (Ab l3).length ql3,.slice ao j cp] rfl (by kernel_rfl) 29 _ HBz.out (by kernel_rfl) rfl (by kernel_rfl) ?_)
      |fail)
     obtain⟨q1,q2,q3,q4⟩:=PR.done HPe.out
     first
      |exact bodyPost_ret (results_cell_row rfl _ _ b 29 _ (0,0) _ rfl q1 Tryz.underlying29 rfl (by kernel_rfl)) rfl ⟨⟨nm,ep,ver,rel,(ar:Int),vd,pv,rq,cn,ob,l0,l1,l2,l3,l⟩,⟨(.slice cpv pv.length qpv),(.slice crq (Ab rq).length qrq),(.slice ccn (Ab cn).length qcn),(.slice cob ob.length qob),(.slice cl0 (Ab l0).length ql0),(.slice cl1 (Ab l1).length ql1),(.slice cl2 (Ab l2).length ql2),(.slice cl3 (Ab l3).length ql3),(.slice ao j cp)⟩,a,e1,rfl,q2,q3,BO HRb.out (.inl ⟨He.out,rfl,rfl⟩),q4⟩
      |exact bodyPost_ret (results_cell_row rfl _ _ b 29 _ (0,0) _ rfl q1 Tryz.underlying29 rfl (by kernel_rfl)) rfl ⟨⟨nm,ep,ver,rel,(ar:Int),vd,pv,rq,cn,ob,l0,l1,l2,l3,l⟩,⟨(.slice cpv pv.length qpv),(.slice crq (Ab rq).length qrq),(.slice ccn (Ab cn).length qcn),(.slice cob ob.length qob),(.slice cl0 (Ab l0).length ql0),(.slice cl1 (Ab l1).length ql1),(.slice cl2 (Ab l2).length ql2),(.slice cl3 (Ab l3).length ql3),(.slice ao j cp)⟩,rfl,q2,a,e1,q3,BO HRb.out (.inl ⟨He.out,rfl,rfl⟩),q4⟩
structure BS (ws:World) (bx:Nat) (t:TypeId) (c:Array Value) (g:Nat) (s:ByteArray) (a:Nat) (e:Int) (W:World):Prop where
 ds:DR g s a e W
 rx:Blk W bx t c
 tt:Ae (fun k=>k=g∨k=bx) ws W
 lo:g<ws.heap.size∧bx<ws.heap.size∧g≠bx
section
variable {α:Type} {K:Kd α} {w ws:World} {bx:Nat} {t t':TypeId} {c:Array Value} {g:Nat} {s:ByteArray} {a a':Nat} {e e':Int} {W W':World}
theorem BS.start (h:DR g s a e ws) (hx:Blk ws bx t c) (hne:g≠bx):BS ws bx t c g s a e ws:=⟨h,hx,Ae.refl _ _,h.rb.lt,hx.lt,hne⟩
theorem BS.call (h:BS ws bx t c g s a e W) (hr:DR g s a' e' W') (ht:Ae (·=g) W W'):BS ws bx t c g s a' e' W':=
 ⟨hr,h.rx.touch ht fun k=>h.lo.2.2 k.symm,h.tt.trans ht fun _ _ h=> .inl h,h.lo⟩
theorem BS.below (h:BS ws bx t c g s a e W) (hb:Below W.heap.size W W'):BS ws bx t c g s a e W':=h.call (h.ds.below hb) (Ae.of_below hb _)
theorem BS.set (h:BS ws bx t c g s a e W) (i:Nat) (v:Value):BS ws bx t (c.setIfInBounds i v) g s a e (W.setCell ⟨bx,i,none⟩ v):=
 ⟨h.ds.far h.lo.2.2,h.rx.set_ i v,h.tt.setCell (p:=⟨bx,i,none⟩) (fun _=> .inr rfl) v,h.lo⟩
theorem IG {n0:Nat} {l:List α} {v:Value} {F:Nat→Prop} (h:Acc K t n0 W l v) (ht:Ae F W W') (hg:∀k,F k→k<n0∨W.heap.size≤k):Acc K t n0 W' l v:=
 h.keep ht.size fun k h1 h2=>ht.block k h2 (fun hk=>by have:=hg k hk;omega)
theorem Gs {n0 i:Nat} {l:List α} {v u:Value} (h:Acc K t n0 W l v) (hb:bx<n0):Acc K t n0 (W.setCell ⟨bx,i,none⟩ u) l v:=
 h.keep (by simp) fun k hk _=>Below.heap_setCell W ⟨bx,i,none⟩ u k (by show k≠bx;omega)
theorem BS.push {l:List α} {v v':Value} {x:α} {r:K.R} {xs:List Value} {m0:Nat} (h:BS ws bx t c g s a e W) (hac:Acc K t' ws.heap.size W l v) (hown:Own W t' K.size v l.length xs) (hm:ws.heap.size≤m0) (hv:∀k,v.ownBlock=some k→k<m0)
 (hx:K.holds (Am m0) W x r) (hO:Own W' t' K.size v' (l.length+1) (xs++K.cells x r)) (hg:W.grownBy W' v.ownBlock) (hat:v'.ownBlock=v.ownBlock∨v'.ownBlock=some W.heap.size):
 BS ws bx t c g s a e W'∧Acc K t' ws.heap.size W' (l++ [x]) v':=by
 have hlo:∀k,v.ownBlock=some k→ws.heap.size≤k:=by
  obtain⟨ps,_,_,h3,_⟩:=hac.ex
  exact h3
 have hl:=h.lo
 have hz:=h.tt.size
 have hne:∀k,k<ws.heap.size→v.ownBlock≠some k:=fun k hk e=>by have:=hlo k e;omega
 exact⟨⟨⟨h.ds.rb.grown hg (fun e=>hne g hl.1 e.symm),h.ds.hat,h.ds.hs⟩,h.rx.grown hg (fun e=>hne bx hl.2.1 e.symm),h.tt.trans (Ae.of_grown (F:=fun k=>v.ownBlock=some k) hg fun k e=>e) fun x hx e=>absurd e (hne x hx),hl⟩,
  Acc.push (r:=r) hown hac hm hx hv hz hO hg hat⟩
end
def IX (s:ByteArray) (at_:Nat) (e:Int) (n j m:Nat) (l:List AK) (a:Nat) (e1:Int):Prop:=(e1=0∧EX s at_ e (n-j) m l a e1)∨(e1≠0∧∀y,Res pO s at_ e y a e1)
section
variable {s:ByteArray} {at_ n j m m' a a2:Nat} {e e1 e2:Int} {l:List AK} {x:AK}
theorem IX.start (h:Res (Cc 0 16) s at_ e n a e1):IX s at_ e n 0 256 [] a e1:=by
 by_cases he:e1=0
 ·exact .inl ⟨he,EX.start h⟩
 ·exact .inr ⟨he,fun y=>Al h (.inl ⟨he,rfl,rfl⟩)⟩
theorem IX.step (h:IX s at_ e n j m l a 0) (hj:j<n) (r:Res (FA m) s a 0 x a2 e2) (hm:e2=0→m'=m-x.pkgs.length):IX s at_ e n (j+1) m' (l++ [x]) a2 e2:=by
 rcases h with ⟨_,h⟩|⟨h,_⟩
 ·rw[show n-j=(n-(j+1))+1 from by omega]at h
  by_cases he:e2=0
  ·exact .inl ⟨he,by rw[hm he];exact h.step r⟩
  ·exact .inr ⟨he,fun y=>(h.bad (m2:=0) r he).bad he⟩
 ·exact absurd rfl h
theorem IX.done (h:IX s at_ e n j m l a e1) (hj:j=n∨e1≠0):Res pO s at_ e (l,m) a e1:=by
 rcases h with ⟨h0,h⟩|⟨_,h⟩
 ·obtain rfl:j=n:=by
   rcases hj with h|h
   ·exact h
   ·exact absurd h0 h
  rw[Nat.sub_self]at h
  exact h.done
 ·exact h (l,m)
end
theorem DGo.fin {α:Type} {p:Rdr α} {lo hi:Int} {s:ByteArray} {at_ n k a:Nat} {e e1:Int} {l:List α} (h:DGo p lo hi s at_ e n k l a e1) (hk:k=n∨e1≠0):Res (Cd lo hi p) s at_ e l a e1:=by
 by_cases he:e1=0
 ·obtain rfl:k=n:=by
   rcases hk with h|h
   ·exact h
   ·exact absurd he h
  exact h.done
 ·exact h.bad he
theorem Nm {s:ByteArray} {m at_ a1 a9 n k prio:Nat} {e e1 e9:Int} {q:List Aq} (h1:Res (Cc 0 1024) s at_ e prio a1 e1) (h2:DGo Iz 0 (m:Int) s a1 e1 n k q a9 e9) (hk:k=n∨e9≠0):Res (FA m) s at_ e ⟨(prio:Int),q⟩ a9 e9:=
 Al h1 (Al (p:=Hv m) (h2.fin hk) (A5 _))
theorem IF {α:Type} {K:Kd α} {n0:Nat} {F:Nat→Prop} {W W':World} {l:List α} {v:Value} (h:LIn K (Am n0) W l v) (ht:Ae F W W') (hF:∀k,F k→k<n0):LIn K (Am n0) W' l v:=
 h.keep ht.size fun k ⟨k1,k2⟩ k3=>by
  have e:=ht.block k k3 (fun hk=>by have:=hF k hk;omega)
  exact⟨e,k1,fun j=>(World.frozen?_of_block (w:=W) e).trans (k2 j)⟩
theorem LU (s:ByteArray) (a:Nat) (e:Int):KW e a s.size=Fe s a e:=rfl
abbrev ldP (n:Nat):Op:=Op.load 36 (.tmp n)
section
variable {o:Oper} {a:Act} {w:World} {K:Act→World→Prop} {Q:Exit→Act→World→Prop}
theorem LH (t u g k:Nat) (old:Value) (aa:Option Addr) (n c:Nat) (ho:o.op= .store 25 (.tmp t) (.tmp u)) (hx:a.eval (.tmp t)= .pointer (some ⟨g,k,none⟩)) (hv:a.eval (.tmp u)= .slice aa n c) (hc:w.cell? ⟨g,k,none⟩=some old) (hf:w.frozen? ⟨g,k,none⟩=false) (_hlt:g<w.heap.size)
 (h:K (a.put o.dst undef) (w.setCell ⟨g,k,none⟩ (.slice aa n c))):o.wp Tryz.prog a w K Q:=by
 unfold Oper.wp execOp
 simp only[ho,hx,hv]
 go_simp
 exact h
theorem PH (t u g k:Nat) (old:Value) (aa:Option Addr) (n c:Nat) (ho:o.op= .store 27 (.tmp t) (.tmp u)) (hx:a.eval (.tmp t)= .pointer (some ⟨g,k,none⟩)) (hv:a.eval (.tmp u)= .slice aa n c) (hc:w.cell? ⟨g,k,none⟩=some old) (hf:w.frozen? ⟨g,k,none⟩=false) (_hlt:g<w.heap.size)
 (h:K (a.put o.dst undef) (w.setCell ⟨g,k,none⟩ (.slice aa n c))):o.wp Tryz.prog a w K Q:=by
 unfold Oper.wp execOp
 simp only[ho,hx,hv]
 go_simp
 exact h
theorem LI (t:Nat) (v:Value) (ho:o.op= .call {callee:= .value (.func 149),args:= #[.tmp t],argTypes:= #[25]}) (hx:a.eval (.tmp t)=v) (hc:Calls Tryz.prog 149 #[v] w fun e w'=>∃u,e= .returned u∧K (a.put o.dst u) w'):o.wp Tryz.prog a w K Q:=by
 unfold Oper.wp execOp
 simp only[ho,resolve,Sem.run_bind,List.map_toArray,List.map_cons,List.map_nil,hx]
 go_simp
 refine hc.mono ?_
 rintro e w' ⟨u,rfl,hk⟩
 exact hk
theorem PM (t:Nat) (v:Value) (ho:o.op= .call {callee:= .value (.func 150),args:= #[.tmp t],argTypes:= #[27]}) (hx:a.eval (.tmp t)=v) (hc:Calls Tryz.prog 150 #[v] w fun e w'=>∃u,e= .returned u∧K (a.put o.dst u) w'):o.wp Tryz.prog a w K Q:=by
 unfold Oper.wp execOp
 simp only[ho,resolve,Sem.run_bind,List.map_toArray,List.map_cons,List.map_nil,hx]
 go_simp
 refine hc.mono ?_
 rintro e w' ⟨u,rfl,hk⟩
 exact hk
theorem MU (t:Nat) (v:Value) (ho:o.op= .call {callee:= .value (.func 152),args:= #[.tmp t],argTypes:= #[34]}) (hx:a.eval (.tmp t)=v) (hc:Calls Tryz.prog 152 #[v] w fun e w'=>∃u,e= .returned u∧K (a.put o.dst u) w'):o.wp Tryz.prog a w K Q:=by
 unfold Oper.wp execOp
 simp only[ho,resolve,Sem.run_bind,List.map_toArray,List.map_cons,List.map_nil,hx]
 go_simp
 refine hc.mono ?_
 rintro e w' ⟨u,rfl,hk⟩
 exact hk
theorem PJ (t g k:Nat) (ho:o.op= .nilCheck (.tmp t)) (hx:a.eval (.tmp t)= .pointer (some ⟨g,k,none⟩)) (h:K (a.put o.dst (.pointer (some ⟨g,k,none⟩))) w):o.wp Tryz.prog a w K Q:=by
 unfold Oper.wp execOp
 simp only[ho,hx]
 go_simp
 exact h
theorem PK (t u b q n c i:Nat) (ho:o.op= .indexAddr 26 (.tmp t) (.tmp u)) (hx:a.eval (.tmp t)= .slice (some ⟨b,q,none⟩) n c) (hu:a.eval (.tmp u)= .int .i64 i) (hi:i<n) (h:K (a.put o.dst (.pointer (some ⟨b,q+i*7,none⟩))) w):o.wp Tryz.prog a w K Q:=by
 have hki:(i:Int)<(n:Int):=by omega
 unfold Oper.wp execOp
 simp only[ho,hx,hu]
 go_simp
 exact h
theorem N8 (t g:Nat) (x:Ac) (s:Value) (hs:∃aa cc,s= .slice aa x.n cc) (ho:o.op= .load 34 (.tmp t)) (hx:a.eval (.tmp t)= .pointer (some ⟨g,0,none⟩)) (hc:AX w g 0 (AM x s)) (h:K (a.put o.dst (x.val s)) w):o.wp Tryz.prog a w K Q:=by
 obtain⟨aa,cc,rfl⟩:=hs
 have x0:=hc.2 0 (show 0<7 by omega)
 have x1:=hc.2 1 (show 1<7 by omega)
 have x2:=hc.2 2 (show 2<7 by omega)
 have x3:=hc.2 3 (show 3<7 by omega)
 have x4:=hc.2 4 (show 4<7 by omega)
 have x5:=hc.2 5 (show 5<7 by omega)
 have x6:=hc.2 6 (show 6<7 by omega)
 dsimp only[AM]at x0 x1 x2 x3 x4 x5 x6
 simp only[Nat.zero_add,List.getElem?_cons_zero,List.getElem?_cons_succ]at x0 x1 x2 x3 x4 x5 x6
 have hlt:=hc.1
 unfold Oper.wp execOp
 simp only[ho,hx]
 go_simp
 exact h
theorem PI (t u b q:Nat) (x:Ac) (s:Value) (hs:s.oneCell'=true) (ho:o.op= .store 34 (.tmp t) (.tmp u)) (hx:a.eval (.tmp t)= .pointer (some ⟨b,q,none⟩)) (hv:a.eval (.tmp u)=x.val s) (ht:w.there b q 7) (h:K (a.put o.dst undef) (w.setCells b q (AM x s))):o.wp Tryz.prog a w K Q:=
 wp_store_mid 34 (.tmp t) (.tmp u) ho b q (AM x s).toArray hx hv (by simpa [AM]using ht) (by kernel_rfl) (all_oneCell_toArray fun v hv=>by
  simp only[AM,List.mem_cons,List.not_mem_nil,or_false]at hv
  rcases hv with rfl|rfl|rfl|rfl|rfl|rfl|rfl
  ·rfl
  ·rfl
  ·rfl
  ·rfl
  ·rfl
  ·rfl
  ·exact hs) h
end
theorem EF (a:Act) (v:Value):a.put none v=a:=rfl
theorem LIn.far {α:Type} {K:Kd α} {N g k:Nat} {u:Value} {w:World} {l:List α} {v:Value} (h:LIn K (Am N) w l v) (hg:g<N):LIn K (Am N) (w.setCell ⟨g,k,none⟩ u) l v:=
 h.keep (by simp) fun b ⟨k1,k2⟩ _=>⟨Below.heap_setCell w ⟨g,k,none⟩ u b (by show b≠g;omega),k1,fun i=>(World.frozen?_of_block (w:=w) (Below.heap_setCell w ⟨g,k,none⟩ u b (by show b≠g;omega))).trans (k2 i)⟩
def O4 (g:Nat) (p:Aq) (r:AE) (N:Nat) (w:World):Nat→Value→Prop
 |0,v=>v= .pointer (some ⟨g,6,none⟩)
 |1,v=>v=r.prov
 |2,v=>LIn AW (Am N) w p.prov v
 |3,v=>v= .pointer (some ⟨g,9,none⟩)
 |4,v=>v=r.obs
 |5,v=>LIn AW (Am N) w p.obs v
 |6,v=>v= .pointer (some ⟨g,14,none⟩)
 |7,v=>v=r.files
 |8,v=>LIn A2 (Am N) w p.files v
 |_,_=>True
theorem Mx {g:Nat} {p:Aq} {r:AE} {N:Nat} {w w':World} (hb:Below w.heap.size w w'):∀{i:Nat} {v:Value},O4 g p r N w i v→O4 g p r N w' i v
 |0,_,h=>h
 |1,_,h=>h
 |2,_,h=>LIn.bel h hb
 |3,_,h=>h
 |4,_,h=>h
 |5,_,h=>LIn.bel h hb
 |6,_,h=>h
 |7,_,h=>h
 |8,_,h=>LIn.bel h hb
 |_+9,_,_=>trivial
abbrev P5:List Op:= [.fieldAddr 29 (.tmp 1) 4,.load 25 (.tmp 7),.call {callee:= .value (.func 149),args:= #[.tmp 8],argTypes:= #[25]},.fieldAddr 29 (.tmp 1) 7,.load 25 (.tmp 10),.call {callee:= .value (.func 149),args:= #[.tmp 11],argTypes:= #[25]},.fieldAddr 29 (.tmp 1) 12,.load 27 (.tmp 13),.call {callee:= .value (.func 150),args:= #[.tmp 14],argTypes:= #[27]},.fieldAddr 29 (.tmp 1) 4,.store 25 (.tmp 16) (.tmp 9),.fieldAddr 29 (.tmp 1) 7,.store 25 (.tmp 17) (.tmp 12),.fieldAddr 29 (.tmp 1) 12,.store 27 (.tmp 18) (.tmp 15)]
abbrev On:List (List Nat):= [[],[0],[1],[],[3],[4,2],[],[6],[7,5],[8,4,7],[9,2,8],[10,5],[11,5],[12,8],[13,8]]
theorem QN {L:List Value} {n0 w0:World} {g:Nat} {p:Aq} {r:AE} {ops:Array Oper} {Q:Exit→Act→World→Prop} {id:Nat} (hL:L.length=56) (hsz:ops.size=15)
 (hL1:(L[1]?).getD undef= .pointer (some ⟨g,0,none⟩)) (hbd:Blk n0 g 29 (pC p r)) (hfm:r.forms) (hin:Ah Ai w0 p r) (hw0:Below w0.heap.size w0 n0) (hsm:p.small)
 (hops:(ops.toList.map fun o=>(o.op,o.guard))=P5.map fun x=>(x,none)) (hdst:(ops.toList.map (·.dst))= [some 7,some 8,some 9,some 10,some 11,some 12,some 13,some 14,some 15,some 16,none,some 17,none,some 18,none])
 (hdeps:((ops.toList.zip On).all fun x=>x.2.all fun d=>x.1.after.any fun e=>e.on==d && Region.binds .any e)=true)
 (hlow:(ops.toList.zipIdx.all fun x=>x.1.after.all fun e=>decide (e.on<x.2))=true)
 (hK:∀mid v1 v2 v3 W,mid.length=12→LIn AW (Am n0.heap.size) W p.prov v1→LIn AW (Am n0.heap.size) W p.obs v2→LIn A2 (Am n0.heap.size) W p.files v3→Blk W g 29 (pC p {r with prov:=v1,obs:=v2,files:=v3})→Ae (fun b=>b=g) n0 W→Q .normal (frm (L.take 7) mid (L.drop 19)) W):
 (Code.region id ops true).wp Tryz.prog Q {tmps:=L.toArray,defers:= []} n0:=by
 obtain⟨N,hN⟩:∃N,N=n0.heap.size:=⟨_,rfl⟩
 have hF1:∀mid,(frm (L.take 7) mid (L.drop 19)).eval (.tmp 1)= .pointer (some ⟨g,0,none⟩):=fun mid=>(AI (by rw[List.length_take];omega)).trans (by rw[List.getElem?_take_of_lt (by omega)];exact hL1)
 have hop_at:∀(i:Nat) (o:Oper) (x:Op),ops[i]?=some o→P5[i]?=some x→o.op=x∧o.guard=none:=fun i o x ho hx=>by
  have h4:=congrArg (fun l=>l[i]?) hops
  rw[List.getElem?_map,List.getElem?_map,Array.getElem?_toList,ho,hx]at h4
  exact Prod.mk.inj (Option.some.inj h4)
 have hds_at:∀(i:Nat) (o:Oper) (x:Option Tmp),ops[i]?=some o→([some 7,some 8,some 9,some 10,some 11,some 12,some 13,some 14,some 15,some 16,none,some 17,none,some 18,none]:List (Option Tmp))[i]?=some x→o.dst=x:=fun i o x ho hx=>by
  have h4:=congrArg (fun l=>l[i]?) hdst
  rw[List.getElem?_map,Array.getElem?_toList,ho,hx]at h4
  exact Option.some.inj h4
 refine CZ (ok:=O4 g p r N) (fun hb h=>Mx hb h) (n:=7) (K:=9) (M:=12) (N:=15) (by omega) (by omega) hsz (by omega) On (by rw[List.map_take,hdst];rfl) hdeps rfl (by kernel_rfl) hlow (fun i o mid w hi ho hm hb hdp=> ?_) (fun mid w hm hb hall=> ?_)
 ·have hbN:N≤w.heap.size:=hN▸hb.size
  have hcases:i=0∨i=1∨i=2∨i=3∨i=4∨i=5∨i=6∨i=7∨i=8:=by omega
  rcases hcases with rfl|rfl|rfl|rfl|rfl|rfl|rfl|rfl|rfl
  all_goals
   obtain⟨hop,hgd'⟩:=hop_at _ _ _ ho rfl
   have hd:=hdp _ rfl
   clear hdp hop_at hds_at ho
  ·exact⟨Ad hgd',fun Kc hKc=>IP 1 g hop (hF1 mid) (hKc _ _ rfl (Below.refl _ _))⟩
  ·obtain⟨aa,nn,cc,hv⟩:=hfm.prov
   exact⟨Ad hgd',fun Kc hKc=>D6 7 g 6 _ aa nn cc hv hop (hd 0 (by simp)) ((hbd.bel' hb).cell 6) (hKc _ _ rfl (Below.refl _ _))⟩
  ·have e1:=hd 1 (by simp)
   refine⟨Ad hgd',fun Kc hKc=>LI 8 _ hop e1 ((GN p.prov r.prov w (hin.prov.below (Aa hw0 hb) fun _ _ _=>trivial) hsm.prov).mono ?_)⟩
   rintro e w' ⟨v',ps,rfl,k1,k2,k3,k4,k5⟩
   exact⟨v',rfl,hKc v' w' (EG (N:=N) k1 k2 k3 (fun b h=>Nat.le_trans hbN (k4 b h)) (by have:=hsm.prov;omega)) k5⟩
  ·exact⟨Ad hgd',fun Kc hKc=>IN 1 g hop (hF1 mid) (hKc _ _ rfl (Below.refl _ _))⟩
  ·obtain⟨aa,nn,cc,hv⟩:=hfm.obs
   exact⟨Ad hgd',fun Kc hKc=>D6 10 g 9 _ aa nn cc hv hop (hd 3 (by simp)) ((hbd.bel' hb).cell 9) (hKc _ _ rfl (Below.refl _ _))⟩
  ·have e1:=hd 4 (by simp)
   refine⟨Ad hgd',fun Kc hKc=>LI 11 _ hop e1 ((GN p.obs r.obs w (hin.obs.below (Aa hw0 hb) fun _ _ _=>trivial) hsm.obs).mono ?_)⟩
   rintro e w' ⟨v',ps,rfl,k1,k2,k3,k4,k5⟩
   exact⟨v',rfl,hKc v' w' (EG (N:=N) k1 k2 k3 (fun b h=>Nat.le_trans hbN (k4 b h)) (by have:=hsm.obs;omega)) k5⟩
  ·exact⟨Ad hgd',fun Kc hKc=>FV 1 g hop (hF1 mid) (hKc _ _ rfl (Below.refl _ _))⟩
  ·obtain⟨aa,nn,cc,hv⟩:=hfm.files
   exact⟨Ad hgd',fun Kc hKc=>IM 13 g 14 _ aa nn cc hv hop (hd 6 (by simp)) ((hbd.bel' hb).cell 14) (hKc _ _ rfl (Below.refl _ _))⟩
  ·have e1:=hd 7 (by simp)
   refine⟨Ad hgd',fun Kc hKc=>PM 14 _ hop e1 ((K0 p.files r.files w (hin.files.below (Aa hw0 hb) fun _ _ _=>trivial) hsm.files).mono ?_)⟩
   rintro e w' ⟨v',ps,rfl,k1,k2,k3,k4,k5⟩
   exact⟨v',rfl,hKc v' w' (Jo (N:=N) k1 k2 k3 (fun b h=>Nat.le_trans hbN (k4 b h)) (by have:=hsm.files;omega)) k5⟩
 ·have e0:ops.toList.drop 9= [ops[9]'(by omega),ops[10]'(by omega),ops[11]'(by omega),ops[12]'(by omega),ops[13]'(by omega),ops[14]'(by omega)]:=by
   rw[List.drop_eq_getElem_cons (by rw[Array.length_toList];omega),List.drop_eq_getElem_cons (by rw[Array.length_toList];omega),List.drop_eq_getElem_cons (by rw[Array.length_toList];omega),List.drop_eq_getElem_cons (by rw[Array.length_toList];omega),List.drop_eq_getElem_cons (by rw[Array.length_toList];omega),List.drop_eq_getElem_cons (by rw[Array.length_toList];omega),List.drop_eq_nil_of_le (by rw[Array.length_toList];omega)]
   simp only[Array.getElem_toList]
  rw[e0]
  obtain⟨hp0,hg0⟩:=hop_at 9 _ _ (Array.getElem?_eq_getElem (by omega)) rfl
  have hd0:=hds_at 9 _ _ (Array.getElem?_eq_getElem (by omega)) rfl
  obtain⟨hp1,hg1⟩:=hop_at 10 _ _ (Array.getElem?_eq_getElem (by omega)) rfl
  have hd1:=hds_at 10 _ _ (Array.getElem?_eq_getElem (by omega)) rfl
  obtain⟨hp2,hg2⟩:=hop_at 11 _ _ (Array.getElem?_eq_getElem (by omega)) rfl
  have hd2:=hds_at 11 _ _ (Array.getElem?_eq_getElem (by omega)) rfl
  obtain⟨hp3,hg3⟩:=hop_at 12 _ _ (Array.getElem?_eq_getElem (by omega)) rfl
  have hd3:=hds_at 12 _ _ (Array.getElem?_eq_getElem (by omega)) rfl
  obtain⟨hp4,hg4⟩:=hop_at 13 _ _ (Array.getElem?_eq_getElem (by omega)) rfl
  have hd4:=hds_at 13 _ _ (Array.getElem?_eq_getElem (by omega)) rfl
  obtain⟨hp5,hg5⟩:=hop_at 14 _ _ (Array.getElem?_eq_getElem (by omega)) rfl
  have hd5:=hds_at 14 _ _ (Array.getElem?_eq_getElem (by omega)) rfl
  have hts:(frm (L.take 7) mid (L.drop 19)).tmps.size=56:=by
   show((L.take 7)++mid++L.drop 19).toArray.size=56
   simp[List.length_take,List.length_drop,hL,hm]
  have hF:(L.take 7).length=7:=by rw[List.length_take];omega
  have z2:=hall 2 (by omega)
  have z5:=hall 5 (by omega)
  have z8:=hall 8 (by omega)
  obtain⟨v1,hv1⟩:∃v1,v1=(frm (L.take 7) mid (L.drop 19)).eval (.tmp (7+2)):=⟨_,rfl⟩
  obtain⟨v2,hv2⟩:∃v1,v1=(frm (L.take 7) mid (L.drop 19)).eval (.tmp (7+5)):=⟨_,rfl⟩
  obtain⟨v3,hv3⟩:∃v1,v1=(frm (L.take 7) mid (L.drop 19)).eval (.tmp (7+8)):=⟨_,rfl⟩
  rw[←hv1]at z2
  rw[←hv2]at z5
  rw[←hv3]at z8
  dsimp only[O4]at z2 z5 z8
  obtain⟨a1,c1,rfl⟩:=z2.form
  obtain⟨a2,c2,rfl⟩:=z5.form
  obtain⟨a3,c3,rfl⟩:=z8.form
  have b1:=hbd.bel' hb
  have b2:=b1.set_ 6 (.slice a1 p.prov.length c1)
  have b3:=b2.set_ 9 (.slice a2 p.obs.length c2)
  have b4:=b3.set_ 14 (.slice a3 p.files.length c3)
  refine⟨hg0,IP 1 g hp0 (hF1 mid) ?_⟩
  rw[hd0]
  refine⟨hg1,LH 16 9 g 6 r.prov a1 _ c1 hp1 (Dj _ _ (by rw[hts];decide)) ((CT _ _ (by decide)).trans hv1.symm) (b1.cell 6) (b1.frozen 6) b1.lt ?_⟩
  rw[hd1,EF]
  refine⟨hg2,IN 1 g hp2 ((CT _ _ (by decide)).trans (hF1 mid)) ?_⟩
  rw[hd2]
  refine⟨hg3,LH 17 12 g 9 r.obs a2 _ c2 hp3 (Dj _ _ (by rw[EE,hts];decide)) ((CT _ _ (by decide)).trans ((CT _ _ (by decide)).trans hv2.symm)) (b2.cell 9) (b2.frozen 9) b2.lt ?_⟩
  rw[hd3,EF]
  refine⟨hg4,FV 1 g hp4 ((CT _ _ (by decide)).trans ((CT _ _ (by decide)).trans (hF1 mid))) ?_⟩
  rw[hd4]
  refine⟨hg5,PH 18 15 g 14 r.files a3 _ c3 hp5 (Dj _ _ (by rw[EE,EE,hts];decide)) ((CT _ _ (by decide)).trans ((CT _ _ (by decide)).trans ((CT _ _ (by decide)).trans hv3.symm))) (b3.cell 14) (b3.frozen 14) b3.lt ?_⟩
  rw[hd5,EF]
  show Q .normal _ _
  rw[BZ (n:=7) (d:=9) hF (by rw[hm];decide),BZ (n:=7) (d:=10) hF (by rw[List.length_set,hm];decide),BZ (n:=7) (d:=11) hF (by rw[List.length_set,List.length_set,hm];decide)]
  have hgN:g<N:=hN▸hbd.lt
  exact hK _ _ _ _ _ (by rw[List.length_set,List.length_set,List.length_set];exact hm) (hN▸((z2.far hgN).far hgN).far hgN) (hN▸((z5.far hgN).far hgN).far hgN) (hN▸((z8.far hgN).far hgN).far hgN) b4 ((((Ae.of_below hb (fun b=>b=g)).setCell (fun _=>rfl) _).setCell (fun _=>rfl) _).setCell (fun _=>rfl) _)
def O3 (g f b q n c j:Nat) (x:Ac) (s:Value) (N:Nat) (w:World):Nat→Value→Prop
 |0,v=>v= .pointer (some ⟨g,f,none⟩)
 |1,v=>v= .pointer (some ⟨g,f,none⟩)
 |2,v=>v= .slice (some ⟨b,q,none⟩) n c
 |3,v=>v= .int .i64 j
 |4,v=>v=x.val s
 |5,v=>∃s',v=x.val s'∧Aj.holds (Am N) w x s'
 |_,_=>True
theorem Mw {g f b q n c j:Nat} {x:Ac} {s:Value} {N:Nat} {w w':World} (hb:Below w.heap.size w w'):∀{i:Nat} {v:Value},O3 g f b q n c j x s N w i v→O3 g f b q n c j x s N w' i v
 |0,_,h=>h
 |1,_,h=>h
 |2,_,h=>h
 |3,_,h=>h
 |4,_,h=>h
 |5,_,⟨s',e,h⟩=>⟨s',e,Aj.keep h hb.size fun b ⟨k1,k2⟩ hlt=>⟨hb.block b hlt,k1,fun i=>(World.frozen?_of_block (w:=w) (hb.block b hlt)).trans (k2 i)⟩⟩
 |_+6,_,_=>trivial
abbrev P3:List Op:= [.move (.tmp 4),.nilCheck (.tmp 46),.load 26 (.tmp 47),.move (.tmp 5),.load 34 (.tmp 6),.call {callee:= .value (.func 152),args:= #[.tmp 50],argTypes:= #[34]},.indexAddr 26 (.tmp 48) (.tmp 49),.store 34 (.tmp 52) (.tmp 51)]
abbrev Ol:List (List Nat):= [[],[0],[1],[],[],[4],[2,3,0,1,4,5],[6,5]]
theorem QL {L:List Value} {n0 w0:World} {g f b q q' n c j gx:Nat} {x:Ac} {s:Value} {cs:Array Value} {ops:Array Oper} {Q:Exit→Act→World→Prop} {id:Nat} (hL:L.length=56) (hsz:ops.size=8)
 (hL4:(L[4]?).getD undef= .pointer (some ⟨g,f,none⟩)) (hL5:(L[5]?).getD undef= .int .i64 j) (hL6:(L[6]?).getD undef= .pointer (some ⟨gx,0,none⟩)) (hbd:Blk n0 g 29 cs) (hof:cs[f]?=some (.slice (some ⟨b,q,none⟩) n c)) (hj:j<n) (hcx:AX n0 gx 0 (AM x s)) (hIA:Au w0 x s) (hw0:Below w0.heap.size w0 n0) (hcn:x.count≤1048576) (hq':q'=q+j*7) (hbl:b<n0.heap.size) (hthere:n0.there b q' 7)
 (hops:(ops.toList.map fun o=>(o.op,o.guard))=P3.map fun x=>(x,none)) (hdst:(ops.toList.map (·.dst))= [some 46,some 47,some 48,some 49,some 50,some 51,some 52,none])
 (hdeps:((ops.toList.zip Ol).all fun x=>x.2.all fun d=>x.1.after.any fun e=>e.on==d && Region.binds .any e)=true)
 (hlow:(ops.toList.zipIdx.all fun x=>x.1.after.all fun e=>decide (e.on<x.2))=true)
 (hK:∀mid s' w1,mid.length=7→Aj.holds (Am n0.heap.size) w1 x s'→Below n0.heap.size n0 w1→Q .normal (frm (L.take 46) mid (L.drop 53)) (w1.setCells b (q+j*7) (AM x s'))):
 (Code.region id ops true).wp Tryz.prog Q {tmps:=L.toArray,defers:= []} n0:=by
 obtain⟨N,hN⟩:∃N,N=n0.heap.size:=⟨_,rfl⟩
 have hF4:∀mid,(frm (L.take 46) mid (L.drop 53)).eval (.tmp 4)= .pointer (some ⟨g,f,none⟩):=fun mid=>(AI (by rw[List.length_take];omega)).trans (by rw[List.getElem?_take_of_lt (by omega)];exact hL4)
 have hF5:∀mid,(frm (L.take 46) mid (L.drop 53)).eval (.tmp 5)= .int .i64 j:=fun mid=>(AI (by rw[List.length_take];omega)).trans (by rw[List.getElem?_take_of_lt (by omega)];exact hL5)
 have hF6:∀mid,(frm (L.take 46) mid (L.drop 53)).eval (.tmp 6)= .pointer (some ⟨gx,0,none⟩):=fun mid=>(AI (by rw[List.length_take];omega)).trans (by rw[List.getElem?_take_of_lt (by omega)];exact hL6)
 have hop_at:∀(i:Nat) (o:Oper) (x:Op),ops[i]?=some o→P3[i]?=some x→o.op=x∧o.guard=none:=fun i o x ho hx=>by
  have h4:=congrArg (fun l=>l[i]?) hops
  rw[List.getElem?_map,List.getElem?_map,Array.getElem?_toList,ho,hx]at h4
  exact Prod.mk.inj (Option.some.inj h4)
 have hds_at:∀(i:Nat) (o:Oper) (x:Option Tmp),ops[i]?=some o→([some 46,some 47,some 48,some 49,some 50,some 51,some 52,none]:List (Option Tmp))[i]?=some x→o.dst=x:=fun i o x ho hx=>by
  have h4:=congrArg (fun l=>l[i]?) hdst
  rw[List.getElem?_map,Array.getElem?_toList,ho,hx]at h4
  exact Option.some.inj h4
 refine CZ (ok:=O3 g f b q n c j x s N) (fun hb h=>Mw hb h) (n:=46) (K:=6) (M:=7) (N:=8) (by omega) (by omega) hsz (by omega) Ol (by rw[List.map_take,hdst];rfl) hdeps rfl (by kernel_rfl) hlow (fun i o mid w hi ho hm hb hdp=> ?_) (fun mid w hm hb hall=> ?_)
 ·have hbN:N≤w.heap.size:=hN▸hb.size
  have hcases:i=0∨i=1∨i=2∨i=3∨i=4∨i=5:=by omega
  rcases hcases with rfl|rfl|rfl|rfl|rfl|rfl
  all_goals
   obtain⟨hop,hgd'⟩:=hop_at _ _ _ ho rfl
   have hd:=hdp _ rfl
   clear hdp hop_at hds_at ho
  ·exact⟨Ad hgd',fun Kc hKc=>Bj 4 _ hop (hF4 mid) (hKc _ _ rfl (Below.refl _ _))⟩
  ·exact⟨Ad hgd',fun Kc hKc=>PJ 46 g f hop (hd 0 (by simp)) (hKc _ _ rfl (Below.refl _ _))⟩
  ·exact⟨Ad hgd',fun Kc hKc=>B0 47 g f _ _ _ _ rfl hop (hd 1 (by simp)) (((hbd.bel' hb).cell f).trans hof) (hKc _ _ rfl (Below.refl _ _))⟩
  ·exact⟨Ad hgd',fun Kc hKc=>Bj 5 _ hop (hF5 mid) (hKc _ _ rfl (Below.refl _ _))⟩
  ·exact⟨Ad hgd',fun Kc hKc=>N8 6 gx x s hIA.form hop (hF6 mid) (hcx.below hb) (hKc _ _ rfl (Below.refl _ _))⟩
  ·have e1:=hd 4 (by simp)
   refine⟨Ad hgd',fun Kc hKc=>MU 50 _ hop e1 ((Ox w0 x s w hIA (Aa hw0 hb) hcn).mono ?_)⟩
   rintro e w' ⟨s',rfl,k1,k2⟩
   exact⟨_,rfl,hKc _ w' ⟨s',rfl,Aj.keep (Ju k1) (Nat.le_refl _) fun b ⟨j1,j2⟩ _=>⟨rfl,Nat.le_trans hbN j1,j2⟩⟩ k2⟩
 ·have e0:ops.toList.drop 6= [ops[6]'(by omega),ops[7]'(by omega)]:=by
   rw[List.drop_eq_getElem_cons (by rw[Array.length_toList];omega),List.drop_eq_getElem_cons (by rw[Array.length_toList];omega),List.drop_eq_nil_of_le (by rw[Array.length_toList];omega)]
   simp only[Array.getElem_toList]
  rw[e0]
  obtain⟨hp0,hg0⟩:=hop_at 6 _ _ (Array.getElem?_eq_getElem (by omega)) rfl
  have hd0:=hds_at 6 _ _ (Array.getElem?_eq_getElem (by omega)) rfl
  obtain⟨hp1,hg1⟩:=hop_at 7 _ _ (Array.getElem?_eq_getElem (by omega)) rfl
  have hd1:=hds_at 7 _ _ (Array.getElem?_eq_getElem (by omega)) rfl
  have hts:(frm (L.take 46) mid (L.drop 53)).tmps.size=56:=by
   show((L.take 46)++mid++L.drop 53).toArray.size=56
   simp[List.length_take,List.length_drop,hL,hm]
  have hF:(L.take 46).length=46:=by rw[List.length_take];omega
  have z2:=hall 2 (by omega)
  have z3:=hall 3 (by omega)
  obtain⟨s',z5,z6⟩:=hall 5 (by omega)
  dsimp only[O3]at z2 z3
  refine⟨hg0,PK 48 49 b q n c j hp0 z2 z3 hj ?_⟩
  rw[hd0]
  have hth:w.there b q' 7:=fun i hi=>by
   obtain⟨h1,h2⟩:=hthere i hi
   have h3:=hb.block b hbl
   exact⟨by rw[World.cell?_of_block (w:=n0) h3];exact h1,by rw[World.frozen?_of_block (w:=n0) h3];exact h2⟩
  subst hq'
  refine⟨hg1,PI 52 51 b _ x s' (AZ.one z6) hp1 (Dj _ _ (by rw[hts];decide)) ((CT _ _ (by decide)).trans z5) hth ?_⟩
  rw[hd1,EF]
  show Q .normal _ _
  rw[BZ (n:=46) (d:=6) hF (by rw[hm];decide)]
  exact hK _ s' w (by rw[List.length_set];exact hm) (hN▸z6) hb
end Go.Proofs.YtdpjjnbelgaagaaGreatDoor
