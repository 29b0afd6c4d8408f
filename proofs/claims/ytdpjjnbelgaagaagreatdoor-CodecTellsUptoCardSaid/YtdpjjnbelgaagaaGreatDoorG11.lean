/- Codec's reader: packages. Conditions: as each theorem names them. -/
import Derived.Test.YtdpjjnbelgaagaaGreatDoorG10
import Derived.Test.YtdpjjnbelgaagaaGreatDoorG07
namespace Go.Proofs.YtdpjjnbelgaagaaGreatDoor
set_option maxHeartbeats 32000000
open Go.ChangeShapes Go.WideShapes Go.ChangeAt Go.RowKit Go.Deep
set_option maxRecDepth 100000
section
variable {B:World→Nat→Prop} {W:World} {p:Aq} {r:AE}
theorem Ah.ep_ {x:Int} (h:Ah B W p r) (hx:0≤x∧x≤2147483647):Ah B W {p with ep:=x} r:=⟨h.s1,h.s2,h.s3,h.s4,h.ar,(by show-9223372036854775808≤x∧x≤9223372036854775807;omega),h.prov,h.req,h.con,h.obs,h.reco,h.sup,h.sug,h.enh,h.files⟩
theorem Ah.ver_ {x:ByteArray} (h:Ah B W p r) (hx:x.size≤64):Ah B W {p with ver:=x} r:=⟨h.s1,(by show x.size≤9223372036854775807;omega),h.s3,h.s4,h.ar,h.ep,h.prov,h.req,h.con,h.obs,h.reco,h.sup,h.sug,h.enh,h.files⟩
theorem Ah.rel_ {x:ByteArray} (h:Ah B W p r) (hx:x.size≤64):Ah B W {p with rel:=x} r:=⟨h.s1,h.s2,(by show x.size≤9223372036854775807;omega),h.s4,h.ar,h.ep,h.prov,h.req,h.con,h.obs,h.reco,h.sup,h.sug,h.enh,h.files⟩
theorem Ah.arch_ {x:Int} (h:Ah B W p r) (hx:0≤x∧x<256):Ah B W {p with arch:=x} r:=⟨h.s1,h.s2,h.s3,h.s4,hx,h.ep,h.prov,h.req,h.con,h.obs,h.reco,h.sup,h.sug,h.enh,h.files⟩
theorem Ah.vendor_ {x:ByteArray} (h:Ah B W p r) (hx:x.size≤64):Ah B W {p with vendor:=x} r:=⟨h.s1,h.s2,h.s3,(by show x.size≤9223372036854775807;omega),h.ar,h.ep,h.prov,h.req,h.con,h.obs,h.reco,h.sup,h.sug,h.enh,h.files⟩
end
def Lp (F:Ac→Ac→Ac→Ac→Rdr Aq) (L:Nat→Ac):Nat→Rdr Aq
 |0=>AJ A8 fun a=>AJ A8 fun b=>AJ A8 fun c=>AJ A8 fun d=>F a b c d
 |1=>AJ A8 fun b=>AJ A8 fun c=>AJ A8 fun d=>F (L 0) b c d
 |2=>AJ A8 fun c=>AJ A8 fun d=>F (L 0) (L 1) c d
 |3=>AJ A8 fun d=>F (L 0) (L 1) (L 2) d
 |_=>F (L 0) (L 1) (L 2) (L 3)
def upd {α:Type} (f:Nat→α) (k:Nat) (x:α):Nat→α:=fun j=>if j=k then x else f j
theorem Km {F:Ac→Ac→Ac→Ac→Rdr Aq} {L:Nat→Ac} {k:Nat} (hk:k<4) {s:ByteArray} {a a2 at2:Nat} {e e1 e2:Int} {x:Ac} {y:Aq} (h:Res A8 s a e x a2 e1) (hy:Res (Lp F (upd L k x) (k+1)) s a2 e1 y at2 e2):Res (Lp F L k) s a e y at2 e2:=by
 have:k=0∨k=1∨k=2∨k=3:=by omega
 rcases this with rfl|rfl|rfl|rfl
 ·exact Al h hy
 ·exact Al h hy
 ·exact Al h hy
 ·exact Al h hy
theorem Ba.four {w:World} {b bx n0:Nat} {nm ver rel vd:ByteArray} {ep ar:Int} {pv ob:List Ax} {rq cn:Ac} {vpv vrq vcn vob:Value} {L:Nat→Ac} {V:Nat→Value} {fl:List ByteArray} {vfl:Value} {g gr:Nat} {s:ByteArray} {left:Int} {a k:Nat} {e:Int} {W:World} {x:Ac} {v:Value}
 (h:Ba w b bx n0 ⟨nm,ep,ver,rel,ar,vd,pv,rq,cn,ob,L 0,L 1,L 2,L 3,fl⟩ ⟨vpv,vrq,vcn,vob,V 0,V 1,V 2,V 3,vfl⟩ g gr s left a e W) (hk:k<4) (hl:LIn Aj (Am n0) W (Ab x) v):
 Ba w b bx n0 ⟨nm,ep,ver,rel,ar,vd,pv,rq,cn,ob,upd L k x 0,upd L k x 1,upd L k x 2,upd L k x 3,fl⟩ ⟨vpv,vrq,vcn,vob,upd V k v 0,upd V k v 1,upd V k v 2,upd V k v 3,vfl⟩ g gr s left a e (W.setCell ⟨bx,10+k,none⟩ v):=by
 have:k=0∨k=1∨k=2∨k=3:=by omega
 rcases this with rfl|rfl|rfl|rfl
 ·exact h.put 10 v rfl (h.inn.reco_ hl)
 ·exact h.put 11 v rfl (h.inn.sup_ hl)
 ·exact h.put 12 v rfl (h.inn.sug_ hl)
 ·exact h.put 13 v rfl (h.inn.enh_ hl)
theorem Jl {W:World} {bx:Nat} {c0 c1 c2 c3 c4 c5 c6 c7 c8 c9 c14:Value} {V:Nat→Value} (h:Blk W bx 29 #[c0,c1,c2,c3,c4,c5,c6,c7,c8,c9,V 0,V 1,V 2,V 3,c14]) {k:Nat} (hk:k<4):W.cell? ⟨bx,10+k,none⟩=some (V k)∧W.frozen? ⟨bx,10+k,none⟩=false:=by
 have:k=0∨k=1∨k=2∨k=3:=by omega
 rcases this with rfl|rfl|rfl|rfl
 ·exact⟨h.cell 10,h.frozen 10⟩
 ·exact⟨h.cell 11,h.frozen 11⟩
 ·exact⟨h.cell 12,h.frozen 12⟩
 ·exact⟨h.cell 13,h.frozen 13⟩
abbrev PV (bx:Nat):Array Value:= #[.pointer (some ⟨bx,10,none⟩),.pointer (some ⟨bx,11,none⟩),.pointer (some ⟨bx,12,none⟩),.pointer (some ⟨bx,13,none⟩)]
theorem OF {W:World} {ba bx:Nat} (h:Blk W ba 175 (PV bx)) {k:Nat} (hk:k<4):W.cell? ⟨ba,k,none⟩=some (.pointer (some ⟨bx,10+k,none⟩)):=by
 have:k=0∨k=1∨k=2∨k=3:=by omega
 rcases this with rfl|rfl|rfl|rfl
 ·exact h.cell 0
 ·exact h.cell 1
 ·exact h.cell 2
 ·exact h.cell 3
theorem Kn {α:Type} {P:Rdr α} {s:ByteArray} {a a2:Nat} {e:Int} {x:α} (h:Res P s a e x a2 0):P s a= .ok (x,a2):=by
 rcases h with ⟨h1,_,h2⟩|⟨_,⟨h2,_⟩|⟨_,h2⟩⟩
 ·exact absurd h2.symm h1
 ·exact h2
 ·exact absurd rfl h2
theorem Jd {α:Type} {P:Rdr α} (hp:CX 0 P) {s:ByteArray} {a a2:Nat} {e:Int} {x:α} (h:Res P s a e x a2 0) (hs:a≤s.size):a≤a2:=(hp.mono s a x a2 (Nat.zero_le _) hs (Kn h)).1
theorem MX {D:World} (hW:Bc D) (hO:Ops D) {g gr:Nat} {s:ByteArray} {left:Int} {at_:Nat} {e:Int} {w:World} (hD:Below D.heap.size D w) (hg:D.heap.size≤g∧D.heap.size≤gr) (h:RSt g gr s left at_ e w):
 Calls Tryz.prog 86 #[.pointer (some ⟨g,0,none⟩)] w (Cg g gr s left at_ e Iz (fun x v w'=>∃r,v=x.val r∧AN.holds (Am w.heap.size) w' x r) w):=by
 obtain⟨b,hbe⟩:∃b,b=w.heap.size:=⟨_,rfl⟩
 obtain⟨w1,hw1⟩:∃w1,w1=w.alloc (.cells Bq 29):=⟨_,rfl⟩
 have hb1:Below w.heap.size w w1:=by rw[hw1];exact Ag _ _
 have hx1:Blk w1 b 29 Bq:=by rw[hw1,hbe];exact Blk.new _ _ _
 have HS1:=Hd (show RSt g gr s left at_ e w1∧Blk w1 b 29 Bq∧Ae (RF g gr) w w1∧w1.heap.size=b+1∧w.heap.size=b∧g<b∧gr<b from⟨h.below hb1,hx1,Ae.of_below hb1 _,by rw[hw1,hbe];simp,hbe.symm,hbe▸h.rb.lt,hbe▸h.wr.lt⟩)
 have HTab:=Hd (show∀W,Ae (RF g gr) w W→Bc W∧Ops W from fun W ht=>by
  have hB:Below D.heap.size D W:=hD.trans (ht.below hD.size (by rintro k hk (e|e)<;>omega))
  exact⟨hW.below hB,hO.below hB⟩)
 have HAt:=Hd h.hat
 have HA:=Hd (OE gr s at_ e w1 HS1.out.1.wr)
 have HC:=Hd (CK HS1.out.1)
 have c0:w1.cell? ⟨g,0,none⟩=some (.pointer (some ⟨gr,0,none⟩)):=HS1.out.1.rb.cell 0
 clear h hb1 hx1 hD hg hW hO
 go_enter Tryz.func86,Tryz.ntmps86
 go_upto_region 1 with fail
 rw[←hw1,←hbe]
 have HG:=Hd hbe
 clear hw1 hbe
 go_upto_region 3 with (first
  |(go_at_call 132;(with_reducible refine HA.out.mono ?_);rintro r w2 ⟨rfl,rfl⟩)
  |(go_at_call 133;(with_reducible refine HC.out.mono ?_);rintro r w2 ⟨nm,v2,a2,e2,rfl,⟨rfl,hnm⟩,hs2,hr2,ht2⟩;have HQ2:=Hd (show RSt g gr s left a2 e2 w2∧Ae (RF g gr) w1 w2∧nm.size≤64 from⟨hs2,ht2,hnm⟩);have HR2:=Hd hr2;clear hs2 hr2 ht2 hnm)
  |fail)
 obtain⟨bx,hbx⟩:∃bx,bx=w2.heap.size:=⟨_,rfl⟩
 obtain⟨w3,hw3⟩:∃w3,w3=w2.alloc (.cells #[.string nm,.int .i64 0,.string ⟨#[]⟩,.string ⟨#[]⟩,.int .u8 0,.string ⟨#[]⟩,.slice none 0 0,.slice none 0 0,.slice none 0 0,.slice none 0 0,.slice none 0 0,.slice none 0 0,.slice none 0 0,.slice none 0 0,.slice none 0 0] 29):=⟨_,rfl⟩
 have HP3:=Hd (show Ba w b bx (bx+1) ⟨nm,0,emp,emp,0,emp,[],(ofL 0 []),(ofL 0 []),[],(ofL 0 []),(ofL 0 []),(ofL 0 []),(ofL 0 []),[]⟩ ⟨nV,nV,nV,nV,nV,nV,nV,nV,nV⟩ g gr s left a2 e2 w3 from by
  obtain⟨h1,h2,h3,h4,h5,h6,h7⟩:=HS1.out
  have h8:=HQ2.out.2.1.size
  have hb3:Below w2.heap.size w2 w3:=by rw[hw3];exact Ag _ _
  have hz2:=h1.far HQ2.out.2.1 h2 (by decide) (by decide)
  refine⟨HQ2.out.1.below hb3,hz2.below hb3 hz2.lt,by rw[hbx,hw3];exact Blk.new _ _ _,Ld _ _ HQ2.out.2.2,(h3.trans HQ2.out.2.1 fun _ _ h=>h).trans (Ae.of_below hb3 (RF g gr)) fun _ _ h=>h,⟨by omega,by omega,by omega,by omega,by rw[hw3,hbx];simp,by omega,by omega⟩,by omega⟩)
 rw[←hw3,←hbx]
 have HBx:=Hd hbx
 clear hw3 hbx c0 HC HA HQ2
 have HC:=Hd (Ib HP3.out.rs)
 go_upto_region 4 with (first
  |(go_at_call 134;(with_reducible refine HC.out.mono ?_);rintro rr w4 ⟨ep,ver,rel,a4,e4,rfl,⟨hx0,hx1,hx2,hx3⟩,hs,hr,ht⟩;have HP4:=Hd (HP3.out.call hs ht);have HR4:=Hd hr;have HEv:=Hd (show(0≤ep∧ep≤2147483647)∧ver.size≤64∧rel.size≤64 from⟨⟨hx0,hx1⟩,hx2,hx3⟩);clear hx0 hx1 hx2 hx3;have y1:w4.cell? ⟨bx,1,none⟩=some (.int .i64 0):=HP4.out.rx.cell 1;have yf1:=HP4.out.rx.frozen 1;have y2:w4.cell? ⟨bx,2,none⟩=some (.string ⟨#[]⟩):=HP4.out.rx.cell 2;have yf2:=HP4.out.rx.frozen 2;have y3:w4.cell? ⟨bx,3,none⟩=some (.string ⟨#[]⟩):=HP4.out.rx.cell 3;have yf3:=HP4.out.rx.frozen 3;have yl:bx<w4.heap.size:=HP4.out.rx.lt;clear hs hr ht)
  |fail)
 obtain⟨w5,hw⟩:∃w5,w5=((w4.setCell ⟨bx,1,none⟩ (.int .i64 ep)).setCell ⟨bx,2,none⟩ (.string ver)).setCell ⟨bx,3,none⟩ (.string rel):=⟨_,rfl⟩
 have HP5:=Hd (show Ba w b bx (bx+1) ⟨nm,ep,ver,rel,0,emp,[],(ofL 0 []),(ofL 0 []),[],(ofL 0 []),(ofL 0 []),(ofL 0 []),(ofL 0 []),[]⟩ ⟨nV,nV,nV,nV,nV,nV,nV,nV,nV⟩ g gr s left a4 e4 w5 from hw▸(Ba.put (p':=⟨nm,ep,ver,rel,0,emp,[],(ofL 0 []),(ofL 0 []),[],(ofL 0 []),(ofL 0 []),(ofL 0 []),(ofL 0 []),[]⟩) (r':=⟨nV,nV,nV,nV,nV,nV,nV,nV,nV⟩) (Ba.put (p':=⟨nm,ep,ver,emp,0,emp,[],(ofL 0 []),(ofL 0 []),[],(ofL 0 []),(ofL 0 []),(ofL 0 []),(ofL 0 []),[]⟩) (r':=⟨nV,nV,nV,nV,nV,nV,nV,nV,nV⟩) (Ba.put (p':=⟨nm,ep,emp,emp,0,emp,[],(ofL 0 []),(ofL 0 []),[],(ofL 0 []),(ofL 0 []),(ofL 0 []),(ofL 0 []),[]⟩) (r':=⟨nV,nV,nV,nV,nV,nV,nV,nV,nV⟩) HP4.out 1 (.int .i64 ep) rfl (HP4.out.inn.ep_ HEv.out.1)) 2 (.string ver) rfl ((Ba.put (p':=⟨nm,ep,emp,emp,0,emp,[],(ofL 0 []),(ofL 0 []),[],(ofL 0 []),(ofL 0 []),(ofL 0 []),(ofL 0 []),[]⟩) (r':=⟨nV,nV,nV,nV,nV,nV,nV,nV,nV⟩) HP4.out 1 (.int .i64 ep) rfl (HP4.out.inn.ep_ HEv.out.1)).inn.ver_ HEv.out.2.1)) 3 (.string rel) rfl ((Ba.put (p':=⟨nm,ep,ver,emp,0,emp,[],(ofL 0 []),(ofL 0 []),[],(ofL 0 []),(ofL 0 []),(ofL 0 []),(ofL 0 []),[]⟩) (r':=⟨nV,nV,nV,nV,nV,nV,nV,nV,nV⟩) (Ba.put (p':=⟨nm,ep,emp,emp,0,emp,[],(ofL 0 []),(ofL 0 []),[],(ofL 0 []),(ofL 0 []),(ofL 0 []),(ofL 0 []),[]⟩) (r':=⟨nV,nV,nV,nV,nV,nV,nV,nV,nV⟩) HP4.out 1 (.int .i64 ep) rfl (HP4.out.inn.ep_ HEv.out.1)) 2 (.string ver) rfl ((Ba.put (p':=⟨nm,ep,emp,emp,0,emp,[],(ofL 0 []),(ofL 0 []),[],(ofL 0 []),(ofL 0 []),(ofL 0 []),(ofL 0 []),[]⟩) (r':=⟨nV,nV,nV,nV,nV,nV,nV,nV,nV⟩) HP4.out 1 (.int .i64 ep) rfl (HP4.out.inn.ep_ HEv.out.1)).inn.ver_ HEv.out.2.1)).inn.rel_ HEv.out.2.2)))
 rw[←hw]
 clear hw HC HP3 HP4
 clear y1 yf1 y2 yf2 y3 yf3 yl
 have c0:w5.cell? ⟨g,0,none⟩=some (.pointer (some ⟨gr,0,none⟩)):=HP5.out.rs.rb.cell 0
 have HC:=Hd (Bv 1 4 (by decide) HP5.out.rs)
 go_upto_region 5 with (first
  |(go_at_call 83;(with_reducible refine HC.out.mono ?_);rintro rr w6 ⟨ar,a6,e6,rfl,har,hs,hr,ht,hl7,hz7⟩;clear hl7 hz7;have hwr8:IntKind.u8.wrap (ar:Int)=(ar:Int):=(by(rw[IntKind.wrap_u8'];omega));have HP6:=Hd (HP5.out.call hs ht);have HR6:=Hd hr;have y4:w6.cell? ⟨bx,4,none⟩=some (.int .u8 0):=HP6.out.rx.cell 4;have yf4:=HP6.out.rx.frozen 4;have yl:bx<w6.heap.size:=HP6.out.rx.lt;clear hs hr ht)
  |fail)
 obtain⟨w7,hw⟩:∃w7,w7=w6.setCell ⟨bx,4,none⟩ (.int .u8 (ar:Int)):=⟨_,rfl⟩
 have HP7:=Hd (show Ba w b bx (bx+1) ⟨nm,ep,ver,rel,(ar:Int),emp,[],(ofL 0 []),(ofL 0 []),[],(ofL 0 []),(ofL 0 []),(ofL 0 []),(ofL 0 []),[]⟩ ⟨nV,nV,nV,nV,nV,nV,nV,nV,nV⟩ g gr s left a6 e6 w7 from hw▸(Ba.put (p':=⟨nm,ep,ver,rel,(ar:Int),emp,[],(ofL 0 []),(ofL 0 []),[],(ofL 0 []),(ofL 0 []),(ofL 0 []),(ofL 0 []),[]⟩) (r':=⟨nV,nV,nV,nV,nV,nV,nV,nV,nV⟩) HP6.out 4 (.int .u8 (ar:Int)) rfl (HP6.out.inn.arch_ (by omega))))
 rw[←hw]
 clear hw HC HP5 HP6
 clear y4 yf4 yl
 have HC:=Hd (CK HP7.out.rs)
 go_upto_region 6 with (first
  |(go_at_call 133;(with_reducible refine HC.out.mono ?_);rintro rr w8 ⟨vd,v8,a8,e8,rfl,⟨rfl,hvd⟩,hs,hr,ht⟩;have HP8:=Hd (HP7.out.call hs ht);have HR8:=Hd hr;have HVd:=Hd hvd;clear hvd;have y5:w8.cell? ⟨bx,5,none⟩=some (.string ⟨#[]⟩):=HP8.out.rx.cell 5;have yf5:=HP8.out.rx.frozen 5;have yl:bx<w8.heap.size:=HP8.out.rx.lt;clear hs hr ht)
  |fail)
 obtain⟨w9,hw⟩:∃w9,w9=w8.setCell ⟨bx,5,none⟩ (.string vd):=⟨_,rfl⟩
 have HP9:=Hd (show Ba w b bx (bx+1) ⟨nm,ep,ver,rel,(ar:Int),vd,[],(ofL 0 []),(ofL 0 []),[],(ofL 0 []),(ofL 0 []),(ofL 0 []),(ofL 0 []),[]⟩ ⟨nV,nV,nV,nV,nV,nV,nV,nV,nV⟩ g gr s left a8 e8 w9 from hw▸(Ba.put (p':=⟨nm,ep,ver,rel,(ar:Int),vd,[],(ofL 0 []),(ofL 0 []),[],(ofL 0 []),(ofL 0 []),(ofL 0 []),(ofL 0 []),[]⟩) (r':=⟨nV,nV,nV,nV,nV,nV,nV,nV,nV⟩) HP8.out 5 (.string vd) rfl (HP8.out.inn.vendor_ HVd.out)))
 rw[←hw]
 clear hw HC HP7 HP8
 clear y5 yf5 yl
 have HC:=Hd (GM HP9.out.rs)
 go_upto_region 7 with (first
  |(go_at_call 135;(with_reducible refine HC.out.mono ?_);rintro rr w10 ⟨pv,vpv,a10,e10,rfl,hl,hs,hr,ht⟩;have HP10:=Hd (HP9.out.call hs ht);have HR10:=Hd hr;obtain⟨cpv,qpv,rfl⟩:=hl.form;have HL10:=Hd (LIn.more (n:=bx+1) (by have:=HP9.out.lo;omega) hl);clear hl;have y6:w10.cell? ⟨bx,6,none⟩=some nV:=HP10.out.rx.cell 6;have yf6:=HP10.out.rx.frozen 6;have yl:bx<w10.heap.size:=HP10.out.rx.lt;clear hs hr ht)
  |fail)
 obtain⟨w11,hw⟩:∃w11,w11=w10.setCell ⟨bx,6,none⟩ (.slice cpv pv.length qpv):=⟨_,rfl⟩
 have HP11:=Hd (show Ba w b bx (bx+1) ⟨nm,ep,ver,rel,(ar:Int),vd,pv,(ofL 0 []),(ofL 0 []),[],(ofL 0 []),(ofL 0 []),(ofL 0 []),(ofL 0 []),[]⟩ ⟨(.slice cpv pv.length qpv),nV,nV,nV,nV,nV,nV,nV,nV⟩ g gr s left a10 e10 w11 from hw▸(Ba.put (p':=⟨nm,ep,ver,rel,(ar:Int),vd,pv,(ofL 0 []),(ofL 0 []),[],(ofL 0 []),(ofL 0 []),(ofL 0 []),(ofL 0 []),[]⟩) (r':=⟨(.slice cpv pv.length qpv),nV,nV,nV,nV,nV,nV,nV,nV⟩) HP10.out 6 (.slice cpv pv.length qpv) rfl (HP10.out.inn.prov_ HL10.out)))
 rw[←hw]
 clear hw HC HP9 HP10
 clear y6 yf6 yl
 have HC:=Hd (Dx HP11.out.rs)
 go_upto_region 8 with (first
  |(go_at_call 136;(with_reducible refine HC.out.mono ?_);rintro rr w12 ⟨rq,vrq,a12,e12,rfl,⟨hl,hfit⟩,hs,hr,ht⟩;have HP12:=Hd (HP11.out.call hs ht);have HR12:=Hd hr;obtain⟨crq,qrq,rfl⟩:=hl.form;have HL12:=Hd (LIn.more (n:=bx+1) (by have:=HP11.out.lo;omega) hl);clear hl hfit;have y7:w12.cell? ⟨bx,7,none⟩=some nV:=HP12.out.rx.cell 7;have yf7:=HP12.out.rx.frozen 7;have yl:bx<w12.heap.size:=HP12.out.rx.lt;clear hs hr ht)
  |fail)
 obtain⟨w13,hw⟩:∃w13,w13=w12.setCell ⟨bx,7,none⟩ (.slice crq (Ab rq).length qrq):=⟨_,rfl⟩
 have HP13:=Hd (show Ba w b bx (bx+1) ⟨nm,ep,ver,rel,(ar:Int),vd,pv,rq,(ofL 0 []),[],(ofL 0 []),(ofL 0 []),(ofL 0 []),(ofL 0 []),[]⟩ ⟨(.slice cpv pv.length qpv),(.slice crq (Ab rq).length qrq),nV,nV,nV,nV,nV,nV,nV⟩ g gr s left a12 e12 w13 from hw▸(Ba.put (p':=⟨nm,ep,ver,rel,(ar:Int),vd,pv,rq,(ofL 0 []),[],(ofL 0 []),(ofL 0 []),(ofL 0 []),(ofL 0 []),[]⟩) (r':=⟨(.slice cpv pv.length qpv),(.slice crq (Ab rq).length qrq),nV,nV,nV,nV,nV,nV,nV⟩) HP12.out 7 (.slice crq (Ab rq).length qrq) rfl (HP12.out.inn.req_ HL12.out)))
 rw[←hw]
 clear hw HC HP11 HP12
 clear y7 yf7 yl
 have HC:=Hd (Dx HP13.out.rs)
 go_upto_region 9 with (first
  |(go_at_call 136;(with_reducible refine HC.out.mono ?_);rintro rr w14 ⟨cn,vcn,a14,e14,rfl,⟨hl,hfit⟩,hs,hr,ht⟩;have HP14:=Hd (HP13.out.call hs ht);have HR14:=Hd hr;obtain⟨ccn,qcn,rfl⟩:=hl.form;have HL14:=Hd (LIn.more (n:=bx+1) (by have:=HP13.out.lo;omega) hl);clear hl hfit;have y8:w14.cell? ⟨bx,8,none⟩=some nV:=HP14.out.rx.cell 8;have yf8:=HP14.out.rx.frozen 8;have yl:bx<w14.heap.size:=HP14.out.rx.lt;clear hs hr ht)
  |fail)
 obtain⟨w15,hw⟩:∃w15,w15=w14.setCell ⟨bx,8,none⟩ (.slice ccn (Ab cn).length qcn):=⟨_,rfl⟩
 have HP15:=Hd (show Ba w b bx (bx+1) ⟨nm,ep,ver,rel,(ar:Int),vd,pv,rq,cn,[],(ofL 0 []),(ofL 0 []),(ofL 0 []),(ofL 0 []),[]⟩ ⟨(.slice cpv pv.length qpv),(.slice crq (Ab rq).length qrq),(.slice ccn (Ab cn).length qcn),nV,nV,nV,nV,nV,nV⟩ g gr s left a14 e14 w15 from hw▸(Ba.put (p':=⟨nm,ep,ver,rel,(ar:Int),vd,pv,rq,cn,[],(ofL 0 []),(ofL 0 []),(ofL 0 []),(ofL 0 []),[]⟩) (r':=⟨(.slice cpv pv.length qpv),(.slice crq (Ab rq).length qrq),(.slice ccn (Ab cn).length qcn),nV,nV,nV,nV,nV,nV⟩) HP14.out 8 (.slice ccn (Ab cn).length qcn) rfl (HP14.out.inn.con_ HL14.out)))
 rw[←hw]
 clear hw HC HP13 HP14
 clear y8 yf8 yl
 have HC:=Hd (GM HP15.out.rs)
 go_upto_region 10 with (first
  |(go_at_call 135;(with_reducible refine HC.out.mono ?_);rintro rr w16 ⟨ob,vob,a16,e16,rfl,hl,hs,hr,ht⟩;have HP16:=Hd (HP15.out.call hs ht);have HR16:=Hd hr;obtain⟨cob,qob,rfl⟩:=hl.form;have HL16:=Hd (LIn.more (n:=bx+1) (by have:=HP15.out.lo;omega) hl);clear hl;have y9:w16.cell? ⟨bx,9,none⟩=some nV:=HP16.out.rx.cell 9;have yf9:=HP16.out.rx.frozen 9;have yl:bx<w16.heap.size:=HP16.out.rx.lt;clear hs hr ht)
  |fail)
 obtain⟨w17,hw⟩:∃w17,w17=w16.setCell ⟨bx,9,none⟩ (.slice cob ob.length qob):=⟨_,rfl⟩
 have HP17:=Hd (show Ba w b bx (bx+1) ⟨nm,ep,ver,rel,(ar:Int),vd,pv,rq,cn,ob,(ofL 0 []),(ofL 0 []),(ofL 0 []),(ofL 0 []),[]⟩ ⟨(.slice cpv pv.length qpv),(.slice crq (Ab rq).length qrq),(.slice ccn (Ab cn).length qcn),(.slice cob ob.length qob),nV,nV,nV,nV,nV⟩ g gr s left a16 e16 w17 from hw▸(Ba.put (p':=⟨nm,ep,ver,rel,(ar:Int),vd,pv,rq,cn,ob,(ofL 0 []),(ofL 0 []),(ofL 0 []),(ofL 0 []),[]⟩) (r':=⟨(.slice cpv pv.length qpv),(.slice crq (Ab rq).length qrq),(.slice ccn (Ab cn).length qcn),(.slice cob ob.length qob),nV,nV,nV,nV,nV⟩) HP16.out 9 (.slice cob ob.length qob) rfl (HP16.out.inn.obs_ HL16.out)))
 rw[←hw]
 clear hw HC HP15 HP16
 clear y9 yf9 yl
 have HP18:=Hd (HP17.out.below (Ag w17 (.cells (PV bx) 175)))
 have HB0:=Hd (Blk.new w17 175 (PV bx))
 have HRs:=Hd (show∀y at2 e2',Res (Lp (fun r1 r2 r3 r4=>AJ IA fun files=>B5 (Aq.mk nm ep ver rel (ar:Int) vd pv rq cn ob r1 r2 r3 r4 files)) (fun _=>ofL 0 []) 0) s a16 e16 y at2 e2'→Res Gi s at_ e y at2 e2' from fun y at2 e2' hy=>Al HR2.out (Al HR4.out (Al HR6.out (Al HR8.out (Al HR10.out (Al HR12.out (Al HR14.out (Al HR16.out hy))))))))
 clear HP17 HR2 HR4 HR6 HR8 HR10 HR12 HR14 HR16
 go_wp2_with fail
 go_loopw [46] (fun i wr=>∃(k a:Nat) (e1:Int) (L:Nat→Ac) (V:Nat→Value),k≤4∧i= .int .i64 k∧Hid (Ba w b bx (bx+1) ⟨nm,ep,ver,rel,(ar:Int),vd,pv,rq,cn,ob,(L 0),(L 1),(L 2),(L 3),[]⟩ ⟨(.slice cpv pv.length qpv),(.slice crq (Ab rq).length qrq),(.slice ccn (Ab cn).length qcn),(.slice cob ob.length qob),(V 0),(V 1),(V 2),(V 3),nV⟩ g gr s left a e1 wr∧Blk wr w17.heap.size 175 (PV bx)∧∀y at2 e2',Res (Lp (fun r1 r2 r3 r4=>AJ IA fun files=>B5 (Aq.mk nm ep ver rel (ar:Int) vd pv rq cn ob r1 r2 r3 r4 files)) L k) s a e1 y at2 e2'→Res Gi s at_ e y at2 e2')) (fun i _=>4-(intOf i).toNat)
 case atStart=>exact⟨0,a16,e16,fun _=>ofL 0 [],fun _=> .slice none 0 0,by omega,rfl,⟨HP18.out,HB0.out,HRs.out⟩⟩
 case round=>
  obtain⟨k,a,e1,L,V,hk,rfl,HQ⟩:=hrel
  clear HP18 HB0 HRs
  by_cases hlt:k<4
  ·have hki:(k:Int)<4:=by omega
   have cA:wr.cell? ⟨w17.heap.size,k,none⟩=some (.pointer (some ⟨bx,10+k,none⟩)):=OF HQ.out.2.1 hlt
   have cl:=HQ.out.2.1.lt
   have HC:=Hd (Dx HQ.out.1.rs)
   go_wp2_with (first
    |(go_at_call 136;(with_reducible refine HC.out.mono ?_);rintro rr w19 ⟨x,vx,a19,e19,rfl,⟨hl,hfit⟩,hs,hr,ht⟩;obtain⟨cx,qx,rfl⟩:=hl.form;have HPn:=Hd (HQ.out.1.call hs ht);have HBn:=Hd (HQ.out.1.rs.far ht HQ.out.2.1 (by decide) (by decide));have HLn:=Hd (LIn.more (n:=bx+1) (by have:=HQ.out.1.lo;omega) hl);have HRn:=Hd hr;have yk:=(Jl HPn.out.rx hlt).1;have yf:=(Jl HPn.out.rx hlt).2;have yl:=HPn.out.rx.lt;clear hs hr ht hl hfit)
    |fail)
   go_roundw
   case rel=>exact⟨k+1,a19,e19,upd L k x,upd V k _,by omega,by go_num,⟨HPn.out.four hlt HLn.out,HBn.out.far (HBn.out.ne_ HPn.out.rx (by decide)) _,fun y at2 e2' hy=>HQ.out.2.2 y at2 e2' (Km hlt HRn.out hy)⟩⟩
   case measure=>simp[intOf];omega
  ·obtain rfl:k=4:=by omega
   obtain⟨l0,l1,l2,l3,v0,v1,v2,v3,HQ4⟩:∃(l0 l1 l2 l3:Ac) (v0 v1 v2 v3:Value),Hid (Ba w b bx (bx+1) ⟨nm,ep,ver,rel,(ar:Int),vd,pv,rq,cn,ob,l0,l1,l2,l3,[]⟩ ⟨(.slice cpv pv.length qpv),(.slice crq (Ab rq).length qrq),(.slice ccn (Ab cn).length qcn),(.slice cob ob.length qob),v0,v1,v2,v3,nV⟩ g gr s left a e1 wr∧∀y at2 e2',Res ((fun r1 r2 r3 r4=>AJ IA fun files=>B5 (Aq.mk nm ep ver rel (ar:Int) vd pv rq cn ob r1 r2 r3 r4 files)) l0 l1 l2 l3) s a e1 y at2 e2'→Res Gi s at_ e y at2 e2'):=⟨L 0,L 1,L 2,L 3,V 0,V 1,V 2,V 3,HQ.out.1,HQ.out.2.2⟩
   clear HQ
   obtain⟨d0,f0,(rfl:v0=_)⟩:=HQ4.out.1.inn.reco.form
   obtain⟨d1,f1,(rfl:v1=_)⟩:=HQ4.out.1.inn.sup.form
   obtain⟨d2,f2,(rfl:v2=_)⟩:=HQ4.out.1.inn.sug.form
   obtain⟨d3,f3,(rfl:v3=_)⟩:=HQ4.out.1.inn.enh.form
   have HP20:=Hd (show Ba w b bx (bx+1) ⟨nm,ep,ver,rel,(ar:Int),vd,pv,rq,cn,ob,l0,l1,l2,l3,[]⟩ ⟨(.slice cpv pv.length qpv),(.slice crq (Ab rq).length qrq),(.slice ccn (Ab cn).length qcn),(.slice cob ob.length qob),(.slice d0 (Ab l0).length f0),(.slice d1 (Ab l1).length f1),(.slice d2 (Ab l2).length f2),(.slice d3 (Ab l3).length f3),nV⟩ g gr s left a e1 wr from HQ4.out.1)
   have HBd:=Hd (HQ4.out.2)
   clear HQ4
   have HC:=Hd (NQ 0 32 (by decide) (by decide) (B6 64) (fun a e W hW _=>(CK hW).mono fun r w' ⟨x,v,a2,e2,h1,⟨h2,h2'⟩,h3,h4,h5⟩=>⟨x,v,a2,e2,h1,⟨(),h2,by show x.size≤9223372036854775807;omega⟩,h3,h4,h5⟩) HP20.out.rs)
   go_upto_region 16 with (first
    |(go_at_call 137;(with_reducible refine HC.out.mono ?_);rintro rr w21 ⟨fl,vf,a21,e21,rfl,hl,hs,hr,ht⟩;obtain⟨cf,qf,rfl⟩:=hl.form;have HP21:=Hd (HP20.out.call hs ht);have HL21:=Hd (LIn.more (n:=bx+1) (by have:=HP20.out.lo;omega) hl);have HR21:=Hd (HBd.out _ _ _ (Al hr (A5 _)));have y14:w21.cell? ⟨bx,14,none⟩=some nV:=HP21.out.rx.cell 14;have yf14:=HP21.out.rx.frozen 14;have yl:bx<w21.heap.size:=HP21.out.rx.lt;clear hs hr ht hl)
    |fail)
   obtain⟨w22,hw⟩:∃w22,w22=w21.setCell ⟨bx,14,none⟩ (.slice cf fl.length qf):=⟨_,rfl⟩
   have HP22:=Hd (show Ba w b bx (bx+1) ⟨nm,ep,ver,rel,(ar:Int),vd,pv,rq,cn,ob,l0,l1,l2,l3,fl⟩ ⟨(.slice cpv pv.length qpv),(.slice crq (Ab rq).length qrq),(.slice ccn (Ab cn).length qcn),(.slice cob ob.length qob),(.slice d0 (Ab l0).length f0),(.slice d1 (Ab l1).length f1),(.slice d2 (Ab l2).length f2),(.slice d3 (Ab l3).length f3),(.slice cf fl.length qf)⟩ g gr s left a21 e21 w22 from hw▸HP21.out.put 14 (.slice cf fl.length qf) rfl (HP21.out.inn.files_ HL21.out))
   rw[←hw]
   clear hw HC HP20 HP21 HBd
   clear y14 yf14 yl
   have HF:=Hd (BW HP22.out.rs)
   by_cases he:e21=0
   ·have HF1:=Hd (show Calls Tryz.prog 84 #[.pointer (some ⟨g,0,none⟩)] w22 (fun r w'=>r= .returned (.bool true)∧∃n,w'=w22.drewN n)from HF.out.mono fun r w' ⟨h1,h2⟩=>⟨by rw[h1,he];rfl,h2⟩)
    clear HF
    have HM:=Hd (show∀W,Ba w b bx (bx+1) ⟨nm,ep,ver,rel,(ar:Int),vd,pv,rq,cn,ob,l0,l1,l2,l3,fl⟩ ⟨(.slice cpv pv.length qpv),(.slice crq (Ab rq).length qrq),(.slice ccn (Ab cn).length qcn),(.slice cob ob.length qob),(.slice d0 (Ab l0).length f0),(.slice d1 (Ab l1).length f1),(.slice d2 (Ab l2).length f2),(.slice d3 (Ab l3).length f3),(.slice cf fl.length qf)⟩ g gr s left a21 e21 W→Calls Tryz.prog 34 #[.agg #[.string nm,.int .i64 ep,.string ver,.string rel,.int .u8 (ar:Int),.string vd,.slice cpv pv.length qpv,.slice crq (Ab rq).length qrq,.slice ccn (Ab cn).length qcn,.slice cob ob.length qob,.slice d0 (Ab l0).length f0,.slice d1 (Ab l1).length f1,.slice d2 (Ab l2).length f2,.slice d3 (Ab l3).length f3,.slice cf fl.length qf]] W (fun e w'=>e= .returned (.bool (A9 ⟨nm,ep,ver,rel,(ar:Int),vd,pv,rq,cn,ob,l0,l1,l2,l3,fl⟩))∧Below W.heap.size W w')from fun W hW=>JB W _ _ (hW.inn.keep (Nat.le_refl _) fun _ _ _=>⟨rfl,trivial⟩) W (Below.refl _ _) (Kb (Kn (he▸HR21.out))) (HTab.out W hW.tt).1 (HTab.out W hW.tt).2)
    by_cases hm:A9 ⟨nm,ep,ver,rel,(ar:Int),vd,pv,rq,cn,ob,l0,l1,l2,l3,fl⟩=true
    ·have HM1:=Hd (show∀W,Ba w b bx (bx+1) ⟨nm,ep,ver,rel,(ar:Int),vd,pv,rq,cn,ob,l0,l1,l2,l3,fl⟩ ⟨(.slice cpv pv.length qpv),(.slice crq (Ab rq).length qrq),(.slice ccn (Ab cn).length qcn),(.slice cob ob.length qob),(.slice d0 (Ab l0).length f0),(.slice d1 (Ab l1).length f1),(.slice d2 (Ab l2).length f2),(.slice d3 (Ab l3).length f3),(.slice cf fl.length qf)⟩ g gr s left a21 e21 W→Calls Tryz.prog 34 #[.agg #[.string nm,.int .i64 ep,.string ver,.string rel,.int .u8 (ar:Int),.string vd,.slice cpv pv.length qpv,.slice crq (Ab rq).length qrq,.slice ccn (Ab cn).length qcn,.slice cob ob.length qob,.slice d0 (Ab l0).length f0,.slice d1 (Ab l1).length f1,.slice d2 (Ab l2).length f2,.slice d3 (Ab l3).length f3,.slice cf fl.length qf]] W (fun e w'=>e= .returned (.bool true)∧Below W.heap.size W w')from fun W hW=>(HM.out W hW).mono fun r w' ⟨h1,h2⟩=>⟨by rw[h1,hm],h2⟩)
     clear HM
     go_upto_region 18 with (first
      |(go_at_call 84;(with_reducible refine HF1.out.mono ?_);rintro rr w23 ⟨rfl,n4,hw23⟩;have HP23:=Hd (show Ba w b bx (bx+1) ⟨nm,ep,ver,rel,(ar:Int),vd,pv,rq,cn,ob,l0,l1,l2,l3,fl⟩ ⟨(.slice cpv pv.length qpv),(.slice crq (Ab rq).length qrq),(.slice ccn (Ab cn).length qcn),(.slice cob ob.length qob),(.slice d0 (Ab l0).length f0),(.slice d1 (Ab l1).length f1),(.slice d2 (Ab l2).length f2),(.slice d3 (Ab l3).length f3),(.slice cf fl.length qf)⟩ g gr s left a21 e21 w23 from hw23▸HP22.out.drewN n4);clear hw23;have y0:w23.cell? ⟨bx,0,none⟩=some (.string nm):=HP23.out.rx.cell 0;have yf0:=HP23.out.rx.frozen 0;have y1:w23.cell? ⟨bx,1,none⟩=some (.int .i64 ep):=HP23.out.rx.cell 1;have yf1:=HP23.out.rx.frozen 1;have y2:w23.cell? ⟨bx,2,none⟩=some (.string ver):=HP23.out.rx.cell 2;have yf2:=HP23.out.rx.frozen 2;have y3:w23.cell? ⟨bx,3,none⟩=some (.string rel):=HP23.out.rx.cell 3;have yf3:=HP23.out.rx.frozen 3;have y4:w23.cell? ⟨bx,4,none⟩=some (.int .u8 (ar:Int)):=HP23.out.rx.cell 4;have yf4:=HP23.out.rx.frozen 4;have y5:w23.cell? ⟨bx,5,none⟩=some (.string vd):=HP23.out.rx.cell 5;have yf5:=HP23.out.rx.frozen 5;have y6:w23.cell? ⟨bx,6,none⟩=some (.slice cpv pv.length qpv):=HP23.out.rx.cell 6;have yf6:=HP23.out.rx.frozen 6;have y7:w23.cell? ⟨bx,7,none⟩=some (.slice crq (Ab rq).length qrq):=HP23.out.rx.cell 7;have yf7:=HP23.out.rx.frozen 7;have y8:w23.cell? ⟨bx,8,none⟩=some (.slice ccn (Ab cn).length qcn):=HP23.out.rx.cell 8;have yf8:=HP23.out.rx.frozen 8;have y9:w23.cell? ⟨bx,9,none⟩=some (.slice cob ob.length qob):=HP23.out.rx.cell 9;have yf9:=HP23.out.rx.frozen 9;have y10:w23.cell? ⟨bx,10,none⟩=some (.slice d0 (Ab l0).length f0):=HP23.out.rx.cell 10;have yf10:=HP23.out.rx.frozen 10;have y11:w23.cell? ⟨bx,11,none⟩=some (.slice d1 (Ab l1).length f1):=HP23.out.rx.cell 11;have yf11:=HP23.out.rx.frozen 11;have y12:w23.cell? ⟨bx,12,none⟩=some (.slice d2 (Ab l2).length f2):=HP23.out.rx.cell 12;have yf12:=HP23.out.rx.frozen 12;have y13:w23.cell? ⟨bx,13,none⟩=some (.slice d3 (Ab l3).length f3):=HP23.out.rx.cell 13;have yf13:=HP23.out.rx.frozen 13;have y14:w23.cell? ⟨bx,14,none⟩=some (.slice cf fl.length qf):=HP23.out.rx.cell 14;have yf14:=HP23.out.rx.frozen 14;have yl:bx<w23.heap.size:=HP23.out.rx.lt)
      |(go_at_call 34;(with_reducible refine(HM1.out _ HP23.out).mono ?_);rintro rr w24 ⟨rfl,hb⟩;have HP24:=Hd (HP23.out.below hb);clear hb;clear y0 yf0 y1 yf1 y2 yf2 y3 yf3 y4 yf4 y5 yf5 y6 yf6 y7 yf7 y8 yf8 y9 yf9 y10 yf10 y11 yf11 y12 yf12 y13 yf13 y14 yf14 yl)
      |fail)
     have y0:w24.cell? ⟨bx,0,none⟩=some (.string nm):=HP24.out.rx.cell 0
     have yf0:=HP24.out.rx.frozen 0
     have y1:w24.cell? ⟨bx,1,none⟩=some (.int .i64 ep):=HP24.out.rx.cell 1
     have yf1:=HP24.out.rx.frozen 1
     have y2:w24.cell? ⟨bx,2,none⟩=some (.string ver):=HP24.out.rx.cell 2
     have yf2:=HP24.out.rx.frozen 2
     have y3:w24.cell? ⟨bx,3,none⟩=some (.string rel):=HP24.out.rx.cell 3
     have yf3:=HP24.out.rx.frozen 3
     have y4:w24.cell? ⟨bx,4,none⟩=some (.int .u8 (ar:Int)):=HP24.out.rx.cell 4
     have yf4:=HP24.out.rx.frozen 4
     have y5:w24.cell? ⟨bx,5,none⟩=some (.string vd):=HP24.out.rx.cell 5
     have yf5:=HP24.out.rx.frozen 5
     have y6:w24.cell? ⟨bx,6,none⟩=some (.slice cpv pv.length qpv):=HP24.out.rx.cell 6
     have yf6:=HP24.out.rx.frozen 6
     have y7:w24.cell? ⟨bx,7,none⟩=some (.slice crq (Ab rq).length qrq):=HP24.out.rx.cell 7
     have yf7:=HP24.out.rx.frozen 7
     have y8:w24.cell? ⟨bx,8,none⟩=some (.slice ccn (Ab cn).length qcn):=HP24.out.rx.cell 8
     have yf8:=HP24.out.rx.frozen 8
     have y9:w24.cell? ⟨bx,9,none⟩=some (.slice cob ob.length qob):=HP24.out.rx.cell 9
     have yf9:=HP24.out.rx.frozen 9
     have y10:w24.cell? ⟨bx,10,none⟩=some (.slice d0 (Ab l0).length f0):=HP24.out.rx.cell 10
     have yf10:=HP24.out.rx.frozen 10
     have y11:w24.cell? ⟨bx,11,none⟩=some (.slice d1 (Ab l1).length f1):=HP24.out.rx.cell 11
     have yf11:=HP24.out.rx.frozen 11
     have y12:w24.cell? ⟨bx,12,none⟩=some (.slice d2 (Ab l2).length f2):=HP24.out.rx.cell 12
     have yf12:=HP24.out.rx.frozen 12
     have y13:w24.cell? ⟨bx,13,none⟩=some (.slice d3 (Ab l3).length f3):=HP24.out.rx.cell 13
     have yf13:=HP24.out.rx.frozen 13
     have y14:w24.cell? ⟨bx,14,none⟩=some (.slice cf fl.length qf):=HP24.out.rx.cell 14
     have yf14:=HP24.out.rx.frozen 14
     have yl:bx<w24.heap.size:=HP24.out.rx.lt
     have z0:w24.cell? ⟨b,0,none⟩=some (.string ⟨#[]⟩):=HP24.out.rz.cell 0
     have zf0:=HP24.out.rz.frozen 0
     have z1:w24.cell? ⟨b,1,none⟩=some (.int .i64 0):=HP24.out.rz.cell 1
     have zf1:=HP24.out.rz.frozen 1
     have z2:w24.cell? ⟨b,2,none⟩=some (.string ⟨#[]⟩):=HP24.out.rz.cell 2
     have zf2:=HP24.out.rz.frozen 2
     have z3:w24.cell? ⟨b,3,none⟩=some (.string ⟨#[]⟩):=HP24.out.rz.cell 3
     have zf3:=HP24.out.rz.frozen 3
     have z4:w24.cell? ⟨b,4,none⟩=some (.int .u8 0):=HP24.out.rz.cell 4
     have zf4:=HP24.out.rz.frozen 4
     have z5:w24.cell? ⟨b,5,none⟩=some (.string ⟨#[]⟩):=HP24.out.rz.cell 5
     have zf5:=HP24.out.rz.frozen 5
     have z6:w24.cell? ⟨b,6,none⟩=some nV:=HP24.out.rz.cell 6
     have zf6:=HP24.out.rz.frozen 6
     have z7:w24.cell? ⟨b,7,none⟩=some nV:=HP24.out.rz.cell 7
     have zf7:=HP24.out.rz.frozen 7
     have z8:w24.cell? ⟨b,8,none⟩=some nV:=HP24.out.rz.cell 8
     have zf8:=HP24.out.rz.frozen 8
     have z9:w24.cell? ⟨b,9,none⟩=some nV:=HP24.out.rz.cell 9
     have zf9:=HP24.out.rz.frozen 9
     have z10:w24.cell? ⟨b,10,none⟩=some nV:=HP24.out.rz.cell 10
     have zf10:=HP24.out.rz.frozen 10
     have z11:w24.cell? ⟨b,11,none⟩=some nV:=HP24.out.rz.cell 11
     have zf11:=HP24.out.rz.frozen 11
     have z12:w24.cell? ⟨b,12,none⟩=some nV:=HP24.out.rz.cell 12
     have zf12:=HP24.out.rz.frozen 12
     have z13:w24.cell? ⟨b,13,none⟩=some nV:=HP24.out.rz.cell 13
     have zf13:=HP24.out.rz.frozen 13
     have z14:w24.cell? ⟨b,14,none⟩=some nV:=HP24.out.rz.cell 14
     have zf14:=HP24.out.rz.frozen 14
     have zl:b<w24.heap.size:=HP24.out.rz.lt
     go_wp2_with fail
     obtain⟨q1,q2,q3,q4⟩:=Ba.done HP24.out
     exact bodyPost_ret (results_cell_row rfl _ _ b 29 _ (0,0) _ rfl q1 Tryz.underlying29 rfl (by kernel_rfl)) rfl ⟨⟨nm,ep,ver,rel,(ar:Int),vd,pv,rq,cn,ob,l0,l1,l2,l3,fl⟩,_,a21,e21,rfl,⟨⟨(.slice cpv pv.length qpv),(.slice crq (Ab rq).length qrq),(.slice ccn (Ab cn).length qcn),(.slice cob ob.length qob),(.slice d0 (Ab l0).length f0),(.slice d1 (Ab l1).length f1),(.slice d2 (Ab l2).length f2),(.slice d3 (Ab l3).length f3),(.slice cf fl.length qf)⟩,rfl,q2⟩,q3,BO HR21.out (by rw[if_pos hm];exact A5 _),q4⟩
    ·have HM1:=Hd (show∀W,Ba w b bx (bx+1) ⟨nm,ep,ver,rel,(ar:Int),vd,pv,rq,cn,ob,l0,l1,l2,l3,fl⟩ ⟨(.slice cpv pv.length qpv),(.slice crq (Ab rq).length qrq),(.slice ccn (Ab cn).length qcn),(.slice cob ob.length qob),(.slice d0 (Ab l0).length f0),(.slice d1 (Ab l1).length f1),(.slice d2 (Ab l2).length f2),(.slice d3 (Ab l3).length f3),(.slice cf fl.length qf)⟩ g gr s left a21 e21 W→Calls Tryz.prog 34 #[.agg #[.string nm,.int .i64 ep,.string ver,.string rel,.int .u8 (ar:Int),.string vd,.slice cpv pv.length qpv,.slice crq (Ab rq).length qrq,.slice ccn (Ab cn).length qcn,.slice cob ob.length qob,.slice d0 (Ab l0).length f0,.slice d1 (Ab l1).length f1,.slice d2 (Ab l2).length f2,.slice d3 (Ab l3).length f3,.slice cf fl.length qf]] W (fun e w'=>e= .returned (.bool false)∧Below W.heap.size W w')from fun W hW=>(HM.out W hW).mono fun r w' ⟨h1,h2⟩=>⟨by rw[h1,(Bool.not_eq_true _).mp hm],h2⟩)
     clear HM
     have HQ5:=Hd (Jd (H2 0) (he▸HR21.out) HAt.out)
     have HFl:=Hd (show∀W,Ba w b bx (bx+1) ⟨nm,ep,ver,rel,(ar:Int),vd,pv,rq,cn,ob,l0,l1,l2,l3,fl⟩ ⟨(.slice cpv pv.length qpv),(.slice crq (Ab rq).length qrq),(.slice ccn (Ab cn).length qcn),(.slice cob ob.length qob),(.slice d0 (Ab l0).length f0),(.slice d1 (Ab l1).length f1),(.slice d2 (Ab l2).length f2),(.slice d3 (Ab l3).length f3),(.slice cf fl.length qf)⟩ g gr s left a21 e21 W→Calls Tryz.prog 138 #[.pointer (some ⟨gr,0,none⟩),.int .i64 (at_:Int),.int .i64 4] W (fun r w'=>r= .returned (.int .i64 4)∧Blk w' gr 135 (RB s at_ 4)∧Ae (·=gr) W w')from fun W hW=>by
      have h1:=JP gr s a21 e21 at_ 4 W hW.rs.wr hW.rs.hat (by have:=hW.rs.hs;omega)
      rw[show EQ a21 e21 at_ 4=(4,at_,4)from by rw[he];unfold EQ;rw[if_neg (by simp),if_neg (by have:=HQ5.out;simp;omega),Int.toNat_natCast]]at h1
      exact h1)
     go_upto_region 18 with (first
      |(go_at_call 84;(with_reducible refine HF1.out.mono ?_);rintro rr w23 ⟨rfl,n4,hw23⟩;have HP23:=Hd (show Ba w b bx (bx+1) ⟨nm,ep,ver,rel,(ar:Int),vd,pv,rq,cn,ob,l0,l1,l2,l3,fl⟩ ⟨(.slice cpv pv.length qpv),(.slice crq (Ab rq).length qrq),(.slice ccn (Ab cn).length qcn),(.slice cob ob.length qob),(.slice d0 (Ab l0).length f0),(.slice d1 (Ab l1).length f1),(.slice d2 (Ab l2).length f2),(.slice d3 (Ab l3).length f3),(.slice cf fl.length qf)⟩ g gr s left a21 e21 w23 from hw23▸HP22.out.drewN n4);clear hw23;have y0:w23.cell? ⟨bx,0,none⟩=some (.string nm):=HP23.out.rx.cell 0;have yf0:=HP23.out.rx.frozen 0;have y1:w23.cell? ⟨bx,1,none⟩=some (.int .i64 ep):=HP23.out.rx.cell 1;have yf1:=HP23.out.rx.frozen 1;have y2:w23.cell? ⟨bx,2,none⟩=some (.string ver):=HP23.out.rx.cell 2;have yf2:=HP23.out.rx.frozen 2;have y3:w23.cell? ⟨bx,3,none⟩=some (.string rel):=HP23.out.rx.cell 3;have yf3:=HP23.out.rx.frozen 3;have y4:w23.cell? ⟨bx,4,none⟩=some (.int .u8 (ar:Int)):=HP23.out.rx.cell 4;have yf4:=HP23.out.rx.frozen 4;have y5:w23.cell? ⟨bx,5,none⟩=some (.string vd):=HP23.out.rx.cell 5;have yf5:=HP23.out.rx.frozen 5;have y6:w23.cell? ⟨bx,6,none⟩=some (.slice cpv pv.length qpv):=HP23.out.rx.cell 6;have yf6:=HP23.out.rx.frozen 6;have y7:w23.cell? ⟨bx,7,none⟩=some (.slice crq (Ab rq).length qrq):=HP23.out.rx.cell 7;have yf7:=HP23.out.rx.frozen 7;have y8:w23.cell? ⟨bx,8,none⟩=some (.slice ccn (Ab cn).length qcn):=HP23.out.rx.cell 8;have yf8:=HP23.out.rx.frozen 8;have y9:w23.cell? ⟨bx,9,none⟩=some (.slice cob ob.length qob):=HP23.out.rx.cell 9;have yf9:=HP23.out.rx.frozen 9;have y10:w23.cell? ⟨bx,10,none⟩=some (.slice d0 (Ab l0).length f0):=HP23.out.rx.cell 10;have yf10:=HP23.out.rx.frozen 10;have y11:w23.cell? ⟨bx,11,none⟩=some (.slice d1 (Ab l1).length f1):=HP23.out.rx.cell 11;have yf11:=HP23.out.rx.frozen 11;have y12:w23.cell? ⟨bx,12,none⟩=some (.slice d2 (Ab l2).length f2):=HP23.out.rx.cell 12;have yf12:=HP23.out.rx.frozen 12;have y13:w23.cell? ⟨bx,13,none⟩=some (.slice d3 (Ab l3).length f3):=HP23.out.rx.cell 13;have yf13:=HP23.out.rx.frozen 13;have y14:w23.cell? ⟨bx,14,none⟩=some (.slice cf fl.length qf):=HP23.out.rx.cell 14;have yf14:=HP23.out.rx.frozen 14;have yl:bx<w23.heap.size:=HP23.out.rx.lt)
      |(go_at_call 34;(with_reducible refine(HM1.out _ HP23.out).mono ?_);rintro rr w24 ⟨rfl,hb⟩;have HP24:=Hd (HP23.out.below hb);clear hb;clear y0 yf0 y1 yf1 y2 yf2 y3 yf3 y4 yf4 y5 yf5 y6 yf6 y7 yf7 y8 yf8 y9 yf9 y10 yf10 y11 yf11 y12 yf12 y13 yf13 y14 yf14 yl;have c0:w24.cell? ⟨g,0,none⟩=some (.pointer (some ⟨gr,0,none⟩)):=HP24.out.rs.rb.cell 0)
      |(go_at_call 138;(with_reducible refine(HFl.out _ HP24.out).mono ?_);rintro rr w25 ⟨rfl,hb6,ht6⟩;have hs6:=HP24.out.rs.wire hb6 ht6 HAt.out;have HP25:=Hd (HP24.out.call hs6.1 hs6.2);clear hs6 hb6 ht6 c0)
      |fail)
     have y0:w25.cell? ⟨bx,0,none⟩=some (.string nm):=HP25.out.rx.cell 0
     have yf0:=HP25.out.rx.frozen 0
     have y1:w25.cell? ⟨bx,1,none⟩=some (.int .i64 ep):=HP25.out.rx.cell 1
     have yf1:=HP25.out.rx.frozen 1
     have y2:w25.cell? ⟨bx,2,none⟩=some (.string ver):=HP25.out.rx.cell 2
     have yf2:=HP25.out.rx.frozen 2
     have y3:w25.cell? ⟨bx,3,none⟩=some (.string rel):=HP25.out.rx.cell 3
     have yf3:=HP25.out.rx.frozen 3
     have y4:w25.cell? ⟨bx,4,none⟩=some (.int .u8 (ar:Int)):=HP25.out.rx.cell 4
     have yf4:=HP25.out.rx.frozen 4
     have y5:w25.cell? ⟨bx,5,none⟩=some (.string vd):=HP25.out.rx.cell 5
     have yf5:=HP25.out.rx.frozen 5
     have y6:w25.cell? ⟨bx,6,none⟩=some (.slice cpv pv.length qpv):=HP25.out.rx.cell 6
     have yf6:=HP25.out.rx.frozen 6
     have y7:w25.cell? ⟨bx,7,none⟩=some (.slice crq (Ab rq).length qrq):=HP25.out.rx.cell 7
     have yf7:=HP25.out.rx.frozen 7
     have y8:w25.cell? ⟨bx,8,none⟩=some (.slice ccn (Ab cn).length qcn):=HP25.out.rx.cell 8
     have yf8:=HP25.out.rx.frozen 8
     have y9:w25.cell? ⟨bx,9,none⟩=some (.slice cob ob.length qob):=HP25.out.rx.cell 9
     have yf9:=HP25.out.rx.frozen 9
     have y10:w25.cell? ⟨bx,10,none⟩=some (.slice d0 (Ab l0).length f0):=HP25.out.rx.cell 10
     have yf10:=HP25.out.rx.frozen 10
     have y11:w25.cell? ⟨bx,11,none⟩=some (.slice d1 (Ab l1).length f1):=HP25.out.rx.cell 11
     have yf11:=HP25.out.rx.frozen 11
     have y12:w25.cell? ⟨bx,12,none⟩=some (.slice d2 (Ab l2).length f2):=HP25.out.rx.cell 12
     have yf12:=HP25.out.rx.frozen 12
     have y13:w25.cell? ⟨bx,13,none⟩=some (.slice d3 (Ab l3).length f3):=HP25.out.rx.cell 13
     have yf13:=HP25.out.rx.frozen 13
     have y14:w25.cell? ⟨bx,14,none⟩=some (.slice cf fl.length qf):=HP25.out.rx.cell 14
     have yf14:=HP25.out.rx.frozen 14
     have yl:bx<w25.heap.size:=HP25.out.rx.lt
     have z0:w25.cell? ⟨b,0,none⟩=some (.string ⟨#[]⟩):=HP25.out.rz.cell 0
     have zf0:=HP25.out.rz.frozen 0
     have z1:w25.cell? ⟨b,1,none⟩=some (.int .i64 0):=HP25.out.rz.cell 1
     have zf1:=HP25.out.rz.frozen 1
     have z2:w25.cell? ⟨b,2,none⟩=some (.string ⟨#[]⟩):=HP25.out.rz.cell 2
     have zf2:=HP25.out.rz.frozen 2
     have z3:w25.cell? ⟨b,3,none⟩=some (.string ⟨#[]⟩):=HP25.out.rz.cell 3
     have zf3:=HP25.out.rz.frozen 3
     have z4:w25.cell? ⟨b,4,none⟩=some (.int .u8 0):=HP25.out.rz.cell 4
     have zf4:=HP25.out.rz.frozen 4
     have z5:w25.cell? ⟨b,5,none⟩=some (.string ⟨#[]⟩):=HP25.out.rz.cell 5
     have zf5:=HP25.out.rz.frozen 5
     have z6:w25.cell? ⟨b,6,none⟩=some nV:=HP25.out.rz.cell 6
     have zf6:=HP25.out.rz.frozen 6
     have z7:w25.cell? ⟨b,7,none⟩=some nV:=HP25.out.rz.cell 7
     have zf7:=HP25.out.rz.frozen 7
     have z8:w25.cell? ⟨b,8,none⟩=some nV:=HP25.out.rz.cell 8
     have zf8:=HP25.out.rz.frozen 8
     have z9:w25.cell? ⟨b,9,none⟩=some nV:=HP25.out.rz.cell 9
     have zf9:=HP25.out.rz.frozen 9
     have z10:w25.cell? ⟨b,10,none⟩=some nV:=HP25.out.rz.cell 10
     have zf10:=HP25.out.rz.frozen 10
     have z11:w25.cell? ⟨b,11,none⟩=some nV:=HP25.out.rz.cell 11
     have zf11:=HP25.out.rz.frozen 11
     have z12:w25.cell? ⟨b,12,none⟩=some nV:=HP25.out.rz.cell 12
     have zf12:=HP25.out.rz.frozen 12
     have z13:w25.cell? ⟨b,13,none⟩=some nV:=HP25.out.rz.cell 13
     have zf13:=HP25.out.rz.frozen 13
     have z14:w25.cell? ⟨b,14,none⟩=some nV:=HP25.out.rz.cell 14
     have zf14:=HP25.out.rz.frozen 14
     have zl:b<w25.heap.size:=HP25.out.rz.lt
     go_wp2_with fail
     obtain⟨q1,q2,q3,q4⟩:=Ba.done HP25.out
     exact bodyPost_ret (results_cell_row rfl _ _ b 29 _ (0,0) _ rfl q1 Tryz.underlying29 rfl (by kernel_rfl)) rfl ⟨⟨nm,ep,ver,rel,(ar:Int),vd,pv,rq,cn,ob,l0,l1,l2,l3,fl⟩,_,at_,4,rfl,⟨⟨(.slice cpv pv.length qpv),(.slice crq (Ab rq).length qrq),(.slice ccn (Ab cn).length qcn),(.slice cob ob.length qob),(.slice d0 (Ab l0).length f0),(.slice d1 (Ab l1).length f1),(.slice d2 (Ab l2).length f2),(.slice d3 (Ab l3).length f3),(.slice cf fl.length qf)⟩,rfl,q2⟩,q3,BO (he▸HR21.out) (by rw[if_neg hm];exact .inr ⟨rfl,.inr ⟨rfl,by decide⟩⟩),q4⟩
   ·have HF1:=Hd (show Calls Tryz.prog 84 #[.pointer (some ⟨g,0,none⟩)] w22 (fun r w'=>r= .returned (.bool false)∧∃n,w'=w22.drewN n)from HF.out.mono fun r w' ⟨h1,h2⟩=>⟨by rw[h1,decide_eq_false he],h2⟩)
    clear HF
    go_upto_region 18 with (first
     |(go_at_call 84;(with_reducible refine HF1.out.mono ?_);rintro rr w23 ⟨rfl,n4,hw23⟩;have HP23:=Hd (show Ba w b bx (bx+1) ⟨nm,ep,ver,rel,(ar:Int),vd,pv,rq,cn,ob,l0,l1,l2,l3,fl⟩ ⟨(.slice cpv pv.length qpv),(.slice crq (Ab rq).length qrq),(.slice ccn (Ab cn).length qcn),(.slice cob ob.length qob),(.slice d0 (Ab l0).length f0),(.slice d1 (Ab l1).length f1),(.slice d2 (Ab l2).length f2),(.slice d3 (Ab l3).length f3),(.slice cf fl.length qf)⟩ g gr s left a21 e21 w23 from hw23▸HP22.out.drewN n4);clear hw23;have y0:w23.cell? ⟨bx,0,none⟩=some (.string nm):=HP23.out.rx.cell 0;have yf0:=HP23.out.rx.frozen 0;have y1:w23.cell? ⟨bx,1,none⟩=some (.int .i64 ep):=HP23.out.rx.cell 1;have yf1:=HP23.out.rx.frozen 1;have y2:w23.cell? ⟨bx,2,none⟩=some (.string ver):=HP23.out.rx.cell 2;have yf2:=HP23.out.rx.frozen 2;have y3:w23.cell? ⟨bx,3,none⟩=some (.string rel):=HP23.out.rx.cell 3;have yf3:=HP23.out.rx.frozen 3;have y4:w23.cell? ⟨bx,4,none⟩=some (.int .u8 (ar:Int)):=HP23.out.rx.cell 4;have yf4:=HP23.out.rx.frozen 4;have y5:w23.cell? ⟨bx,5,none⟩=some (.string vd):=HP23.out.rx.cell 5;have yf5:=HP23.out.rx.frozen 5;have y6:w23.cell? ⟨bx,6,none⟩=some (.slice cpv pv.length qpv):=HP23.out.rx.cell 6;have yf6:=HP23.out.rx.frozen 6;have y7:w23.cell? ⟨bx,7,none⟩=some (.slice crq (Ab rq).length qrq):=HP23.out.rx.cell 7;have yf7:=HP23.out.rx.frozen 7;have y8:w23.cell? ⟨bx,8,none⟩=some (.slice ccn (Ab cn).length qcn):=HP23.out.rx.cell 8;have yf8:=HP23.out.rx.frozen 8;have y9:w23.cell? ⟨bx,9,none⟩=some (.slice cob ob.length qob):=HP23.out.rx.cell 9;have yf9:=HP23.out.rx.frozen 9;have y10:w23.cell? ⟨bx,10,none⟩=some (.slice d0 (Ab l0).length f0):=HP23.out.rx.cell 10;have yf10:=HP23.out.rx.frozen 10;have y11:w23.cell? ⟨bx,11,none⟩=some (.slice d1 (Ab l1).length f1):=HP23.out.rx.cell 11;have yf11:=HP23.out.rx.frozen 11;have y12:w23.cell? ⟨bx,12,none⟩=some (.slice d2 (Ab l2).length f2):=HP23.out.rx.cell 12;have yf12:=HP23.out.rx.frozen 12;have y13:w23.cell? ⟨bx,13,none⟩=some (.slice d3 (Ab l3).length f3):=HP23.out.rx.cell 13;have yf13:=HP23.out.rx.frozen 13;have y14:w23.cell? ⟨bx,14,none⟩=some (.slice cf fl.length qf):=HP23.out.rx.cell 14;have yf14:=HP23.out.rx.frozen 14;have yl:bx<w23.heap.size:=HP23.out.rx.lt)
     |fail)
    have z0:w23.cell? ⟨b,0,none⟩=some (.string ⟨#[]⟩):=HP23.out.rz.cell 0
    have zf0:=HP23.out.rz.frozen 0
    have z1:w23.cell? ⟨b,1,none⟩=some (.int .i64 0):=HP23.out.rz.cell 1
    have zf1:=HP23.out.rz.frozen 1
    have z2:w23.cell? ⟨b,2,none⟩=some (.string ⟨#[]⟩):=HP23.out.rz.cell 2
    have zf2:=HP23.out.rz.frozen 2
    have z3:w23.cell? ⟨b,3,none⟩=some (.string ⟨#[]⟩):=HP23.out.rz.cell 3
    have zf3:=HP23.out.rz.frozen 3
    have z4:w23.cell? ⟨b,4,none⟩=some (.int .u8 0):=HP23.out.rz.cell 4
    have zf4:=HP23.out.rz.frozen 4
    have z5:w23.cell? ⟨b,5,none⟩=some (.string ⟨#[]⟩):=HP23.out.rz.cell 5
    have zf5:=HP23.out.rz.frozen 5
    have z6:w23.cell? ⟨b,6,none⟩=some nV:=HP23.out.rz.cell 6
    have zf6:=HP23.out.rz.frozen 6
    have z7:w23.cell? ⟨b,7,none⟩=some nV:=HP23.out.rz.cell 7
    have zf7:=HP23.out.rz.frozen 7
    have z8:w23.cell? ⟨b,8,none⟩=some nV:=HP23.out.rz.cell 8
    have zf8:=HP23.out.rz.frozen 8
    have z9:w23.cell? ⟨b,9,none⟩=some nV:=HP23.out.rz.cell 9
    have zf9:=HP23.out.rz.frozen 9
    have z10:w23.cell? ⟨b,10,none⟩=some nV:=HP23.out.rz.cell 10
    have zf10:=HP23.out.rz.frozen 10
    have z11:w23.cell? ⟨b,11,none⟩=some nV:=HP23.out.rz.cell 11
    have zf11:=HP23.out.rz.frozen 11
    have z12:w23.cell? ⟨b,12,none⟩=some nV:=HP23.out.rz.cell 12
    have zf12:=HP23.out.rz.frozen 12
    have z13:w23.cell? ⟨b,13,none⟩=some nV:=HP23.out.rz.cell 13
    have zf13:=HP23.out.rz.frozen 13
    have z14:w23.cell? ⟨b,14,none⟩=some nV:=HP23.out.rz.cell 14
    have zf14:=HP23.out.rz.frozen 14
    have zl:b<w23.heap.size:=HP23.out.rz.lt
    go_wp2_with fail
    obtain⟨q1,q2,q3,q4⟩:=Ba.done HP23.out
    exact bodyPost_ret (results_cell_row rfl _ _ b 29 _ (0,0) _ rfl q1 Tryz.underlying29 rfl (by kernel_rfl)) rfl ⟨⟨nm,ep,ver,rel,(ar:Int),vd,pv,rq,cn,ob,l0,l1,l2,l3,fl⟩,_,a21,e21,rfl,⟨⟨(.slice cpv pv.length qpv),(.slice crq (Ab rq).length qrq),(.slice ccn (Ab cn).length qcn),(.slice cob ob.length qob),(.slice d0 (Ab l0).length f0),(.slice d1 (Ab l1).length f1),(.slice d2 (Ab l2).length f2),(.slice d3 (Ab l3).length f3),(.slice cf fl.length qf)⟩,rfl,q2⟩,q3,BO HR21.out (.inl ⟨he,rfl,rfl⟩),q4⟩
structure PR (w:World) (b bx:Nat) (p:Aq) (r:AE) (g:Nat) (s:ByteArray) (a:Nat) (e:Int) (W:World):Prop where
 ds:DR g s a e W
 rz:Blk W b 29 Bq
 rx:Blk W bx 29 (pkA p r)
 inn:Ah (Am (bx+1)) W p r
 tt:Ae (·=g) w W
 lo:g<w.heap.size∧w.heap.size≤b∧b<bx∧bx+1≤W.heap.size
structure FS (ws:World) (b bx:Nat) (c:Array Value) (g:Nat) (s:ByteArray) (a:Nat) (e:Int) (W:World):Prop where
 ds:DR g s a e W
 rz:Blk W b 29 Bq
 rx:Blk W bx 29 c
 tt:Ae (fun k=>k=g∨k=bx) ws W
 lo:g<b∧b<bx∧bx<ws.heap.size
section
variable {w ws:World} {b bx:Nat} {p p':Aq} {r r':AE} {c:Array Value} {g:Nat} {s:ByteArray} {a a':Nat} {e e':Int} {W W':World} {B:World→Nat→Prop}
theorem Ah.name_ {x:ByteArray} (h:Ah B W p r) (hx:x.size≤64):Ah B W {p with name:=x} r:=⟨(by show x.size≤9223372036854775807;omega),h.s2,h.s3,h.s4,h.ar,h.ep,h.prov,h.req,h.con,h.obs,h.reco,h.sup,h.sug,h.enh,h.files⟩
theorem JF {n0:Nat} {F:Nat→Prop} (h:Ah (Am n0) W p r) (ht:Ae F W W') (hF:∀k,F k→k<n0):Ah (Am n0) W' p r:=
 h.keep ht.size fun k ⟨k1,k2⟩ k3=>by
  have hb:=ht.block k k3 (fun hk=>by have:=hF k hk;omega)
  exact⟨hb,k1,fun i=>(World.frozen?_of_block (w:=W) hb).trans (k2 i)⟩
theorem PR.call (h:PR w b bx p r g s a e W) (hr:DR g s a' e' W') (ht:Ae (·=g) W W'):PR w b bx p r g s a' e' W':=by
 have hl:=h.lo
 have hz:=ht.size
 exact⟨hr,h.rz.touch ht (by omega),h.rx.touch ht (by omega),JF h.inn ht fun k hk=>by omega,h.tt.trans ht fun _ _ h=>h,⟨hl.1,hl.2.1,hl.2.2.1,by omega⟩⟩
theorem PR.below (h:PR w b bx p r g s a e W) (hb:Below W.heap.size W W'):PR w b bx p r g s a e W':=h.call (h.ds.below hb) (Ae.of_below hb _)
theorem PR.put (h:PR w b bx p r g s a e W) (i:Nat) (v:Value) (he:pkA p' r'=(pkA p r).setIfInBounds i v) (hin:Ah (Am (bx+1)) W p' r'):PR w b bx p' r' g s a e (W.setCell ⟨bx,i,none⟩ v):=by
 have hl:=h.lo
 refine⟨h.ds.far (by omega),h.rz.far (by show b≠bx;omega) v,he▸h.rx.set_ i v,hin.keep (by simp) fun k ⟨k1,k2⟩ k3=> ?_,h.tt.setCell (p:=⟨bx,i,none⟩) (fun k=>absurd k (by show¬bx<w.heap.size;omega)) v,⟨hl.1,hl.2.1,hl.2.2.1,by simp only[World.size_setCell];exact hl.2.2.2⟩⟩
 have hb:(W.setCell ⟨bx,i,none⟩ v).heap[k]?=W.heap[k]?:=Below.heap_setCell _ _ _ _ (by show k≠bx;omega)
 exact⟨hb,k1,fun i=>(World.frozen?_of_block (w:=W) hb).trans (k2 i)⟩
theorem PR.done (h:PR w b bx p r g s a e W):Blk (W.setRow b (pkA p r)) b 29 (pkA p r)∧Ah (Am w.heap.size) (W.setRow b (pkA p r)) p r∧DR g s a e (W.setRow b (pkA p r))∧Ae (·=g) w (W.setRow b (pkA p r)):=by
 have hl:=h.lo
 refine⟨h.rz.row _,h.inn.keep (by rw[size_setRow];exact Nat.le_refl _) fun q ⟨k1,k2⟩ _=> ?_,⟨h.ds.rb.keep (setRow_other W b g _ (by omega)),h.ds.hat,h.ds.hs⟩,h.tt.setRow (fun k=>absurd k (by omega)) _⟩
 have e:=setRow_other W b q (pkA p r) (by omega)
 exact⟨e,by omega,fun i=>(World.frozen?_of_block (w:=W) e).trans (k2 i)⟩
theorem FS.call (h:FS ws b bx c g s a e W) (hr:DR g s a' e' W') (ht:Ae (·=g) W W'):FS ws b bx c g s a' e' W':=
 ⟨hr,h.rz.touch ht (by have:=h.lo;omega),h.rx.touch ht (by have:=h.lo;omega),h.tt.trans ht fun _ _ h=> .inl h,h.lo⟩
theorem FS.below (h:FS ws b bx c g s a e W) (hb:Below W.heap.size W W'):FS ws b bx c g s a e W':=h.call (h.ds.below hb) (Ae.of_below hb _)
theorem FS.set (h:FS ws b bx c g s a e W) (i:Nat) (v:Value):FS ws b bx (c.setIfInBounds i v) g s a e (W.setCell ⟨bx,i,none⟩ v):=
 ⟨h.ds.far (by have:=h.lo;omega),h.rz.far (by show b≠bx;have:=h.lo;omega) v,h.rx.set_ i v,h.tt.setCell (p:=⟨bx,i,none⟩) (fun _=> .inr rfl) v,h.lo⟩
theorem FS.push {l:List ByteArray} {v v':Value} {x:ByteArray} {xs:List Value} {m0:Nat} (h:FS ws b bx c g s a e W) (hac:Acc A2 9 ws.heap.size W l v) (hown:Own W 9 1 v l.length xs) (hm:ws.heap.size≤m0) (hv:∀k,v.ownBlock=some k→k<m0)
 (hx:x.size≤9223372036854775807) (hO:Own W' 9 1 v' (l.length+1) (xs++ [.string x])) (hg:W.grownBy W' v.ownBlock) (hat:v'.ownBlock=v.ownBlock∨v'.ownBlock=some W.heap.size):
 FS ws b bx c g s a e W'∧Acc A2 9 ws.heap.size W' (l++ [x]) v':=by
 have hlo:∀k,v.ownBlock=some k→ws.heap.size≤k:=by
  obtain⟨ps,_,_,h3,_⟩:=hac.ex
  exact h3
 have hl:=h.lo
 have hz:=h.tt.size
 have hne:∀k,k<ws.heap.size→v.ownBlock≠some k:=fun k hk e=>by have:=hlo k e;omega
 exact⟨⟨⟨h.ds.rb.grown hg (fun e=>hne g (by omega) e.symm),h.ds.hat,h.ds.hs⟩,h.rz.grown hg (fun e=>hne b (by omega) e.symm),h.rx.grown hg (fun e=>hne bx (by omega) e.symm),h.tt.trans (Ae.of_grown (F:=fun k=>v.ownBlock=some k) hg fun k e=>e) fun x hx e=>absurd e (hne x (by omega)),hl⟩,
  Acc.push (K:=A2) (r:=()) hown hac hm hx hv (by omega) hO hg hat⟩
theorem Py {n0:Nat} {l:List ByteArray} {v:Value} {F:Nat→Prop} (h:Acc A2 9 n0 W l v) (ht:Ae F W W') (hg:∀k,F k→k<n0):Acc A2 9 n0 W' l v:=
 h.keep ht.size fun k h1 h2=>ht.block k h2 (fun hk=>by have:=hg k hk;omega)
theorem NW {n0 i:Nat} {l:List ByteArray} {v u:Value} (h:Acc A2 9 n0 W l v) (hb:bx<n0):Acc A2 9 n0 (W.setCell ⟨bx,i,none⟩ u) l v:=
 h.keep (by simp) fun k hk _=>Below.heap_setCell W ⟨bx,i,none⟩ u k (by show k≠bx;omega)
theorem FS.back {l:List ByteArray} {v:Value} {c0:Array Value} (h:FS ws b bx c0 g s a' e' W) (hp:PR w b bx p r g s a e ws) (hac:Acc A2 9 ws.heap.size W l v) (hl:l.length≤32) (hc:c0=pkA {p with files:=l} {r with files:=v}):PR w b bx {p with files:=l} {r with files:=v} g s a' e' W:=by
 subst hc
 have hlo:=hp.lo
 have hz:=h.tt.size
 refine⟨h.ds,h.rz,h.rx,(JF hp.inn h.tt fun k hk=>by rcases hk with rfl|rfl<;>omega).files_ (LIn.more (m:=ws.heap.size) (by omega) (hac.done (by omega) (by decide))),hp.tt.trans h.tt fun k hk hf=> ?_,⟨hlo.1,hlo.2.1,hlo.2.2.1,by omega⟩⟩
 rcases hf with rfl|rfl
 ·rfl
 ·omega
end
abbrev ldF (n:Nat):Op:=Op.load 27 (.tmp n)
theorem OK (n0:Nat) (W:World):Ah (Am n0) W ⟨emp,0,emp,emp,0,emp,[],(ofL 0 []),(ofL 0 []),[],(ofL 0 []),(ofL 0 []),(ofL 0 []),(ofL 0 []),[]⟩ ⟨nV,nV,nV,nV,nV,nV,nV,nV,nV⟩:=Ld n0 W (nm:=emp) (by decide)
def pO:Rdr (List AK×Nat):=AJ (Cc 0 16) fun n=>Iy n 256
def EX (s:ByteArray) (at_:Nat) (e:Int) (k m:Nat) (l:List AK) (a:Nat) (e1:Int):Prop:=∀y at2 e2,Res (Iy k m) s a e1 y at2 e2→Res pO s at_ e (l++y.1,y.2) at2 e2
section
variable {s:ByteArray} {at_:Nat} {e:Int} {m:Nat} {l:List AK} {a a2:Nat} {e1 e2:Int} {n k:Nat} {x:AK}
theorem EX.start (h:Res (Cc 0 16) s at_ e n a e1):EX s at_ e n 256 [] a e1:=fun _ _ _ k=>Al h k
theorem EX.step (h:EX s at_ e (k+1) m l a e1) (q:Res (FA m) s a e1 x a2 e2):EX s at_ e k (m-x.pkgs.length) (l++ [x]) a2 e2:=fun y at3 e3 hy=>by
 rw[List.append_assoc]
 exact h (x::y.1,y.2) _ _ (Al q (Ds hy))
theorem EX.bad {m2:Nat} (h:EX s at_ e (k+1) m l a e1) (q:Res (FA m) s a e1 x a2 e2) (h2:e2≠0):Res pO s at_ e (([]:List AK),m2) a2 e2:=((h.step q) ([],0) a2 e2 (.inl ⟨h2,rfl,rfl⟩)).bad h2
theorem EX.done (h:EX s at_ e 0 m l a e1):Res pO s at_ e (l,m) a e1:=by
 have:=h ([],m) a e1 (A5 _)
 rwa [List.append_nil]at this
end
theorem Qa:∃i,Tryz.prog.info? 38=some i∧i.zero=some (.agg #[.int .i64 0,.slice none 0 0])∧i.size=2∧i.bytes=32:=
 info_parts (P:=Tryz.prog) (e:=38) (z:= .agg #[.int .i64 0,.slice none 0 0]) (size:=2) (bytes:=32) (by kernel_rfl)
theorem F6 (w:World) (x:AK) (v:Value) (h:v.oneCell'=true):Src Tryz.prog 2 39 (.slice (some ⟨w.heap.size,0,none⟩) 1 1) 1 (Az.cells x v) (w.alloc (.cells #[.int .i64 x.prio,v] 38)):=
 (Own.made w 38 2 #[.int .i64 x.prio,v] 1 rfl (by simp[maxLen])).src Tryz.underlying39 (fun u hu=>by
   simp only[List.mem_cons,List.not_mem_nil,or_false]at hu
   rcases hu with rfl|rfl
   ·rfl
   ·exact h)
theorem NS {g gr:Nat} {s:ByteArray} {at_:Nat} {e:Int} {w:World}
 (one:∀(m a:Nat) (e:Int) (W:World),m≤256→RSt g gr s (m:Int) a e W→Ae (RF g gr) w W→Calls Tryz.prog 42 #[.pointer (some ⟨g,0,none⟩)] W (fun ret w'=>∃(x:AK) (v:Value) (at2:Nat) (e2:Int),ret= .returned v∧(∃r,v= .agg #[.int .i64 x.prio,r]∧Az.holds (Am W.heap.size) w' x r)∧x.pkgs.length≤m∧RSt g gr s ((m-x.pkgs.length:Nat):Int) at2 e2 w'∧Res (FA m) s a e x at2 e2∧Ae (RF g gr) W w'))
 (h:RSt g gr s 256 at_ e w):Calls Tryz.prog 41 #[.pointer (some ⟨g,0,none⟩),.int .i64 0,.int .i64 16,.func (.func 42) #[.pointer (some ⟨g,0,none⟩)] #[]] w (fun ret w'=>∃(l:List AK) (m:Nat) (v:Value) (at2:Nat) (e2:Int),ret= .returned v∧LIn Az (Am w.heap.size) w' l v∧m≤256∧RSt g gr s (m:Int) at2 e2 w'∧Res pO s at_ e (l,m) at2 e2∧Ae (RF g gr) w w'):=by
 have HO:=Hd one
 have HN:=Hd (Bv 0 16 (by decide) h)
 have HH:=Hd h
 have c0:w.cell? ⟨g,0,none⟩=some (.pointer (some ⟨gr,0,none⟩)):=h.rb.cell 0
 obtain⟨iD,hiD,hz0,hz1,hz2⟩:=Qa
 clear one h
 go_enter Tryz.func41,Tryz.ntmps41
 go_wp2_with (first
  |(go_at_call 83;(with_reducible refine HN.out.mono ?_);rintro r w1 ⟨n,a1,e1,rfl,hn,hs1,hr1,ht1,hl1,hz1'⟩;have hnb:n≤1024:=(by omega);have HS1:=Hd (show GSt Az 38 w g gr s 256 a1 e1 [] nV w1 from⟨hs1,Acc.nil _ _ _ _,ht1,HH.out.rb.lt,HH.out.wr.lt⟩);have HG1:=Hd (EX.start hr1);clear hs1 hr1 ht1 hl1 hz1' hn)
  |fail)
 go_loopw [9,18] (fun v i wr=>∃(k m a:Nat) (e1:Int) (l:List AK),k≤n∧i= .int .i64 k∧Hid (l.length=k∧GSt Az 38 w g gr s (m:Int) a e1 l v wr∧EX s at_ e (n-k) m l a e1∧m≤256)) (fun _ i _=>n-(intOf i).toNat)
 case atStart=>exact⟨0,256,a1,e1,[],by omega,rfl,⟨rfl,HS1.out,HG1.out,by omega⟩⟩
 case round=>
  obtain⟨k,m,a,e1,l,hk,rfl,HQ⟩:=hrel
  by_cases hlt:k<n
  ·have hki:(k:Int)<(n:Int):=by omega
   have HMo:=Hd (HO.out m a e1 wr HQ.out.2.2.2 HQ.out.2.1.rs HQ.out.2.1.tt)
   go_upto_region 5 with (first
    |(go_at_call 42;(with_reducible refine HMo.out.mono ?_);rintro rr w2 ⟨x,vx,b2,e2,rfl,⟨r,rfl,hx2⟩,hm2,hs2,hr2,ht2⟩;have HM2:=Hd hm2;obtain⟨m2,hm2'⟩:∃m2,m2=m-x.pkgs.length:=⟨_,rfl⟩;rw[←hm2']at hs2;have HM3:=Hd hm2';clear hm2 hm2';obtain⟨ra,rc,(rfl:r=_)⟩:=(show LIn AN (Am wr.heap.size) w2 x.pkgs r from hx2.2).form;have HS2:=Hd (HQ.out.2.1.call hs2 ht2);have HX2:=Hd hx2;have HR2:=Hd hr2;have HT2:=Hd ht2.size;clear hs2 hr2 ht2 hx2)
    |fail)
   obtain⟨b,hbe⟩:∃b,b=w2.heap.size:=⟨_,rfl⟩
   obtain⟨w3,hw3⟩:∃w3,w3=w2.alloc (.cells #[.int .i64 x.prio,.slice ra x.pkgs.length rc] 38):=⟨_,rfl⟩
   have hb3:Below w2.heap.size w2 w3:=by rw[hw3];exact Ag _ _
   have HB3:=Hd (show Blk w3 b 38 #[.int .i64 x.prio,.slice ra x.pkgs.length rc]from by rw[hw3,hbe];exact Blk.new _ _ _)
   have HS3:=Hd (HS2.out.below hb3)
   have HX3:=Hd (Co HX2.out hb3)
   have HG3:=Hd (show EX s at_ e (n-(k+1)+1) m l a e1 from by rw[show n-(k+1)+1=n-k from by omega];exact HQ.out.2.2.1)
   have HL:=Hd HQ.out.1
   have HM:=Hd HQ.out.2.2.2
   have HF:=Hd (BW HS3.out.rs)
   have HOw:=Hd (fun q hq=>(HQ.out.2.1.ownB q hq).2)
   have HSz:=Hd HQ.out.2.1.tt.size
   rw[←hw3,←hbe]
   clear hw3 hbe hb3 HS2 HQ
   by_cases he2:e2=0
   ·have HF1:=Hd (show Calls Tryz.prog 84 #[.pointer (some ⟨g,0,none⟩)] w3 (fun r w'=>r= .returned (.bool true)∧∃n,w'=w3.drewN n)from HF.out.mono fun r w' ⟨h1,h2⟩=>⟨by rw[h1,he2];rfl,h2⟩)
    clear HF
    go_upto_region 7 with (first
     |(go_at_call 84;(with_reducible refine HF1.out.mono ?_);rintro rr w4 ⟨rfl,n4,rfl⟩)
     |fail)
    obtain⟨w4,hw4⟩:∃w4,w4=w3.drewN n4:=⟨_,rfl⟩
    rw[←hw4]
    have HB4:=Hd (show Blk w4 b 38 #[.int .i64 x.prio,.slice ra x.pkgs.length rc]from hw4▸HB3.out.drewN n4)
    have HS4:=Hd (show GSt Az 38 w g gr s (m2:Int) b2 e2 l u9 w4 from hw4▸HS3.out.drewN n4)
    have HX4:=Hd (show Az.holds (Am wr.heap.size) w4 x (Value.slice ra x.pkgs.length rc)from hw4▸(show Az.holds (Am wr.heap.size) (w3.drewN n4) x (Value.slice ra x.pkgs.length rc)from Co HX3.out (AD (Below.refl _ _) n4)))
    have z0:w4.cell? ⟨b,0,none⟩=some (.int .i64 x.prio):=HB4.out.cell 0
    have z1:w4.cell? ⟨b,1,none⟩=some (.slice ra x.pkgs.length rc):=HB4.out.cell 1
    have bl:b<w4.heap.size:=HB4.out.lt
    obtain⟨xs,hown,hone⟩:=HS4.out.ac.own
    obtain⟨ao,cp,hve⟩:=Cl hown
    have hll:=HL.out
    subst hve
    rw[hll]at hown
    have HO4:=Hd hown
    have HN4:=Hd hone
    clear hw4 HB3 HS3 HX3 HF1 HB4 hown hone
    go_wp2_with (first
     |(at_builtin;(refine AC _ rfl (.tmp 25) (.tmp 27) _ _ rfl 38 iD _ 2 32 Tryz.underlying39 hiD hz0 hz1 hz2 rfl (by omega) (.slice ao l.length cp) l.length xs rfl (hll▸HO4.out.alloc _) HN4.out (.slice (some ⟨w4.heap.size,0,none⟩) 1 1) 1 (Az.cells x (Value.slice ra x.pkgs.length rc)) rfl (F6 w4 x (.slice ra x.pkgs.length rc) rfl) (by simp only[maxLen];omega) (by omega) ?_);rintro ao' cap' w7 hn1 hn2 hO7 hg7 hat7 hlt7;have hS5:=HS4.out.below (Ag w4 (.cells #[.int .i64 x.prio,.slice ra x.pkgs.length rc] 38));have HS7:=Hd (hS5.push (x:=x) (r:=(Value.slice ra x.pkgs.length rc)) (hll▸HO4.out.alloc _) HSz.out HOw.out (Co HX4.out (Ag _ _)) hO7 hg7 hat7);clear hn1 hn2 hO7 hg7 hat7 hlt7 hS5)
     |fail)
    go_roundw
    case rel=>exact⟨k+1,m2,b2,e2,l++ [x],by omega,by go_num,⟨by rw[List.length_append,hll];rfl,by(have h7:=HS7.out;rw[hll]at h7;exact h7),by(rw[HM3.out];exact HG3.out.step HR2.out),by have:=HM3.out;have:=HM.out;omega⟩⟩
    case measure=>simp[intOf];omega
   ·have HF1:=Hd (show Calls Tryz.prog 84 #[.pointer (some ⟨g,0,none⟩)] w3 (fun r w'=>r= .returned (.bool false)∧∃n,w'=w3.drewN n)from HF.out.mono fun r w' ⟨h1,h2⟩=>⟨by rw[h1,decide_eq_false he2],h2⟩)
    clear HF
    go_wp2_with (first
     |(go_at_call 84;(with_reducible refine HF1.out.mono ?_);rintro rr w4 ⟨rfl,n4,rfl⟩)
     |fail)
    go_ret
    exact⟨[],m2,_,b2,e2,rfl,LIn.nil _ _ _,by have:=HM3.out;have:=HM.out;omega,HS3.out.rs.drewN n4,HG3.out.bad HR2.out he2,HS3.out.tt.drewN n4⟩
  ·obtain rfl:k=n:=by omega
   go_wp2_with fail
   go_ret
   have hG:=HQ.out.2.2.1
   rw[Nat.sub_self]at hG
   exact⟨l,m,u9,a,e1,rfl,HQ.out.2.1.ac.done (by have:=HQ.out.1;omega) (by decide),HQ.out.2.2.2,HQ.out.2.1.rs,hG.done,HQ.out.2.1.tt⟩
structure Tab (D:World) (g gr:Nat) (w:World):Prop where
 hW:Bc D
 hO:Ops D
 hB:Below D.heap.size D w
 lo:D.heap.size≤g∧D.heap.size≤gr
theorem Tab.touch {D:World} {g gr:Nat} {w w':World} (h:Tab D g gr w) (ht:Ae (RF g gr) w w'):Tab D g gr w':=
 ⟨h.hW,h.hO,h.hB.trans (ht.below h.hB.size (by have:=h.lo;rintro k hk (e|e)<;>omega)),h.lo⟩
theorem RSt.left {g gr:Nat} {s:ByteArray} {left left':Int} {a:Nat} {e:Int} {w:World} (h:RSt g gr s left a e w):RSt g gr s left' a e (w.setCell ⟨g,1,none⟩ (.int .i64 left')):=
 ⟨h.rb.set_ 1 (.int .i64 left'),h.wr.far h.ne.symm _,h.hat,h.hs⟩
def QF (g gr:Nat) (s:ByteArray) (left:Nat) (at_:Nat) (e:Int) (w:World) (ret:Ending) (w':World):Prop:=
 ∃(l:List Aq) (v:Value) (at2:Nat) (e2:Int),ret= .returned v∧LIn AN (Am w.heap.size) w' l v∧l.length≤left∧RSt g gr s ((left-l.length:Nat):Int) at2 e2 w'∧Res (Hv left) s at_ e l at2 e2∧Ae (RF g gr) w w'
theorem GL {D:World} {g gr:Nat} {s:ByteArray} {left:Nat} {at_:Nat} {e:Int} {w:World} (hl:left≤256) (hT:Tab D g gr w) (h:RSt g gr s (left:Int) at_ e w):Calls Tryz.prog 43 #[.pointer (some ⟨g,0,none⟩)] w (QF g gr s left at_ e w):=by
 have HP:=Hd (NR 0 (left:Int) (by omega) (by omega) Iz (fun a e W hW ht=>MX hT.hW hT.hO (hT.touch ht).hB hT.lo hW) h)
 have c1:w.cell? ⟨g,1,none⟩=some (.int .i64 (left:Int)):=h.rb.cell 1
 have HG:=Hd h.rb.lt
 clear h hT
 go_enter Tryz.func43,Tryz.ntmps43
 go_wp2_with (first
  |(go_at_call 85;(with_reducible refine HP.out.mono ?_);rintro rr w2 ⟨l,v,a2,e2,rfl,⟨hl2,hn⟩,hs,hr,ht⟩;obtain⟨al,cl,rfl⟩:=hl2.form;have hn':l.length≤left:=(by omega);have HL2:=Hd hl2;have HS2:=Hd hs;have HR2:=Hd hr;have HT2:=Hd ht;have k1:w2.cell? ⟨g,1,none⟩=some (.int .i64 (left:Int)):=hs.rb.cell 1;have kf1:=hs.rb.frozen 1;have kl:=hs.rb.lt;clear hl2 hn hs hr ht)
  |fail)
 go_ret
 have HS3:=HS2.out.left (left':=((left:Int)-(l.length:Int)))
 refine⟨l,_,a2,e2,rfl,HL2.out.keep (by simp) fun k ⟨k1,k2⟩ k3=> ?_,hn',by rw[Int.ofNat_sub hn'];exact HS3,HR2.out,HT2.out.setCell (p:=⟨g,1,none⟩) (fun _=> .inl rfl) _⟩
 have hb:(w2.setCell ⟨g,1,none⟩ (.int .i64 ((left:Int)-(l.length:Int)))).heap[k]?=w2.heap[k]?:=Below.heap_setCell _ _ _ _ (by have:=HG.out;show k≠g;omega)
 exact⟨hb,k1,fun i=>(World.frozen?_of_block (w:=w2) hb).trans (k2 i)⟩
theorem LIn.set_ {α:Type} {K:Kd α} {n0 b i:Nat} {W:World} {l:List α} {v u:Value} (h:LIn K (Am n0) W l v) (hb:b<n0):LIn K (Am n0) (W.setCell ⟨b,i,none⟩ u) l v:=
 h.keep (by simp) fun k ⟨k1,k2⟩ _=>by
  have e:(W.setCell ⟨b,i,none⟩ u).heap[k]?=W.heap[k]?:=Below.heap_setCell _ _ _ _ (by show k≠b;omega)
  exact⟨e,k1,fun j=>(World.frozen?_of_block (w:=W) e).trans (k2 j)⟩
theorem LIn.touch {α:Type} {K:Kd α} {n0 g gr:Nat} {W W':World} {l:List α} {v:Value} (h:LIn K (Am n0) W l v) (ht:Ae (RF g gr) W W') (h1:g<n0) (h2:gr<n0):LIn K (Am n0) W' l v:=
 h.keep ht.size fun k ⟨k1,k2⟩ k3=>by
  have e:=ht.block k k3 (by rintro(e|e)<;>omega)
  exact⟨e,k1,fun j=>(World.frozen?_of_block (w:=W) e).trans (k2 j)⟩
theorem KZ {D:World} {g gr:Nat} {s:ByteArray} {left:Nat} {at_:Nat} {e:Int} {w:World} (hl:left≤256) (hT:Tab D g gr w) (h:RSt g gr s (left:Int) at_ e w):Calls Tryz.prog 42 #[.pointer (some ⟨g,0,none⟩)] w
 (fun ret w'=>∃(x:AK) (v:Value) (at2:Nat) (e2:Int),ret= .returned v∧(∃r,v= .agg #[.int .i64 x.prio,r]∧Az.holds (Am w.heap.size) w' x r)∧x.pkgs.length≤left∧RSt g gr s ((left-x.pkgs.length:Nat):Int) at2 e2 w'∧Res (FA left) s at_ e x at2 e2∧Ae (RF g gr) w w'):=by
 obtain⟨b,hbe⟩:∃b,b=w.heap.size:=⟨_,rfl⟩
 obtain⟨w1,hw1⟩:∃w1,w1=w.alloc (.cells #[.int .i64 0,.slice none 0 0] 38):=⟨_,rfl⟩
 have hb1:Below w.heap.size w w1:=by rw[hw1];exact Ag _ _
 have hx1:Blk w1 b 38 #[.int .i64 0,.slice none 0 0]:=by rw[hw1,hbe];exact Blk.new _ _ _
 have HS1:=Hd (show RSt g gr s (left:Int) at_ e w1∧Blk w1 b 38 #[.int .i64 0,.slice none 0 0]∧Ae (RF g gr) w w1∧w1.heap.size=b+1∧w.heap.size=b from⟨h.below hb1,hx1,Ae.of_below hb1 _,by rw[hw1,hbe];simp,hbe.symm⟩)
 have HTb:=Hd (hT.touch (Ae.of_below hb1 _))
 have HN:=Hd (Bv 0 1024 (by decide) HS1.out.1)
 have c0:w1.cell? ⟨g,0,none⟩=some (.pointer (some ⟨gr,0,none⟩)):=HS1.out.1.rb.cell 0
 clear h hT hb1 hx1
 go_enter Tryz.func42,Tryz.ntmps42
 go_upto_region 1 with fail
 rw[←hw1,←hbe]
 have HG:=Hd hbe
 clear hw1 hbe
 go_upto_region 2 with (first
  |(go_at_call 83;(with_reducible refine HN.out.mono ?_);rintro r w2 ⟨n,a2,e2,rfl,hn,hs,hr,ht,hl2,hz2⟩;have HQ2:=Hd (show RSt g gr s (left:Int) a2 e2 w2∧Ae (RF g gr) w1 w2∧(n:Int)≤1024 from⟨hs,ht,hn⟩);have HR2:=Hd hr;clear hs hr ht hl2 hz2 hn)
  |fail)
 have HB2:=Hd (HS1.out.1.far HQ2.out.2.1 HS1.out.2.1 (by decide) (by decide))
 have HP:=Hd (GL hl (HTb.out.touch HQ2.out.2.1) HQ2.out.1)
 have HZ2:=Hd HQ2.out.2.1.size
 clear c0 HN
 go_wp2_with (first
  |(go_at_call 43;(with_reducible refine HP.out.mono ?_);rintro rr w3 ⟨l,v,a3,e3,rfl,hl3,hn3,hs,hr,ht⟩;obtain⟨al,cl,rfl⟩:=hl3.form;have HL3:=Hd (LIn.more (n:=b+1) (by have:=HZ2.out;have:=HS1.out.2.2.2.1;omega) hl3);have HS3:=Hd (show RSt g gr s ((left-l.length:Nat):Int) a3 e3 w3∧Blk w3 b 38 #[.int .i64 0,.slice none 0 0]∧Ae (RF g gr) w w3 from⟨hs,HQ2.out.1.far ht HB2.out (by decide) (by decide),(HS1.out.2.2.1.trans HQ2.out.2.1 fun _ _ h=>h).trans ht fun _ _ h=>h⟩);have HR3:=Hd hr;have HN3:=Hd hn3;have z0:=HS3.out.2.1.cell 0;have z1:=HS3.out.2.1.cell 1;have f0:=HS3.out.2.1.frozen 0;have f1:=HS3.out.2.1.frozen 1;have zl:=HS3.out.2.1.lt;clear hl3 hn3 hs hr ht)
  |fail)
 have hbg:b≠g∧b≠gr:=⟨HS3.out.2.1.ne_ HS3.out.1.rb (by decide),HS3.out.2.1.ne_ HS3.out.1.wr (by decide)⟩
 have hb0:w.heap.size≤b:=by rw[HS1.out.2.2.2.2];exact Nat.le_refl _
 have q1:=(HS3.out.2.1.set_ 0 (.int .i64 (n:Int))).set_ 1 (.slice al l.length cl)
 exact bodyPost_ret (results_cell_row rfl _ _ b 38 _ (0,0) _ rfl q1 Tryz.underlying38 rfl (by kernel_rfl)) rfl ⟨⟨(n:Int),l⟩,_,a3,e3,rfl,⟨_,rfl,⟨by show-9223372036854775808≤(n:Int);omega,by show(n:Int)≤9223372036854775807;have:=HQ2.out.2.2;omega⟩,(((HL3.out.set_ (i:=0) (u:= .int .i64 (n:Int)) (Nat.lt_succ_self b)).set_ (i:=1) (u:= .slice al l.length cl) (Nat.lt_succ_self b)).more (by omega))⟩,HN3.out,(HS3.out.1.set (p:=⟨b,0,none⟩) hbg.1 hbg.2 _).set (p:=⟨b,1,none⟩) hbg.1 hbg.2 _,Al HR2.out (Al HR3.out (A5 _)),Bh (p:=⟨b,1,none⟩) (Bh (p:=⟨b,0,none⟩) HS3.out.2.2 hb0 _) hb0 _⟩
theorem Bd {P:Program} {fn:Func} {p u v:Tmp} {ty:TypeId} (h:fn.results= #[.cell p ty,.tmp u,.tmp v]) (tmps:Array Value) (w:World) (g:Nat) (t:TypeId) (cs:Array Value) (fr:Nat×Nat) (d:TypeDesc)
 (hp:tmps.getD p undef= .pointer (some ⟨g,0,none⟩)) (hg:w.heap[g]?=some (.cells cs t fr))
 (hu:P.underlying ty=some d) (hd:(match d with| .struct _| .array _ _=>true|_=>false)=true) (hi:(P.info? ty).map (·.size)=some cs.size):
 (results fn tmps).run P w= .ok (.tuple #[.agg cs,tmps.getD u undef,tmps.getD v undef]) w:=by
 have hp':tmps[p]?.getD undef= .pointer (some ⟨g,0,none⟩):=by simpa using hp
 simp[results,h,hp',asAddr,run_loadVar_row w g t ty cs fr d hg hu hd hi]
def Hu:Rdr AA:=AJ pO fun y=>AJ (Hv y.2) fun i=>B5 ⟨y.1,i⟩
theorem Gh (s:ByteArray) (a:Nat):Nw s a=Hu s a:=by
 unfold Nw Hu pO AJ
 cases Cc 0 16 s a with
 |ok y=>rfl
 |error x=>rfl
def Cz (s:ByteArray) (n0:Nat) (ret:Ending) (w':World):Prop:=
 match IS s with
 | .ok d=>∃vr vi,ret= .returned (.tuple #[.agg #[vr,vi],.int .i64 0,.int .i64 0])∧AR (Am n0) w' d vr vi
 | .error x=>ret= .returned (.tuple #[.agg #[.slice none 0 0,.slice none 0 0],.int .i64 (x.1:Int),.int .i64 x.2])
theorem H8 {s:ByteArray} (h:4194304<s.size):IS s= .error (0,40):=by
 unfold IS
 rw[if_pos h]
theorem LT {s:ByteArray} {d:AA} {a:Nat} {e:Int} (h:¬4194304<s.size) (hr:Res Hu s 0 0 d a e) (he:Fe s a e≠0):IS s= .error (a,Fe s a e):=by
 unfold IS
 rw[if_neg h,Gh]
 rcases hr with ⟨h1,_⟩|⟨_,⟨h2,rfl⟩|⟨h2,h3⟩⟩
 ·exact absurd rfl h1
 ·rw[h2]
  unfold Fe at he ⊢
  by_cases hq:a<s.size
  ·simp[hq]
  ·simp[hq]at he
 ·rw[h2]
  unfold Fe
  simp[h3]
theorem JY {s:ByteArray} {d:AA} {a:Nat} {e:Int} (h:¬4194304<s.size) (hr:Res Hu s 0 0 d a e) (he:Fe s a e=0):IS s= .ok d:=by
 unfold IS
 rw[if_neg h,Gh]
 rcases hr with ⟨h1,_⟩|⟨_,⟨h2,rfl⟩|⟨h2,h3⟩⟩
 ·exact absurd rfl h1
 ·rw[h2]
  unfold Fe at he
  by_cases hq:a<s.size
  ·simp[hq]at he
  ·simp[hq]
 ·unfold Fe at he
  simp[h3]at he
theorem KU (s:ByteArray) (w:World) (hW:Bc w) (hO:Ops w):Calls Tryz.prog 18 #[.string s] w fun ret w'=>Below w.heap.size w w'∧Cz s w.heap.size ret w':=by
 obtain⟨b,hbe⟩:∃b,b=w.heap.size:=⟨_,rfl⟩
 obtain⟨w1,hw1⟩:∃w1,w1=w.alloc (.cells #[.slice none 0 0,.slice none 0 0] 41):=⟨_,rfl⟩
 have hb1:Below w.heap.size w w1:=by rw[hw1];exact Ag _ _
 have hx1:Blk w1 b 41 #[.slice none 0 0,.slice none 0 0]:=by rw[hw1,hbe];exact Blk.new _ _ _
 have HS1:=Hd (show Below w.heap.size w w1∧Blk w1 b 41 #[.slice none 0 0,.slice none 0 0]∧w1.heap.size=b+1∧w.heap.size=b from⟨hb1,hx1,by rw[hw1,hbe];simp,hbe.symm⟩)
 have HTab:=Hd (show Bc w∧Ops w from⟨hW,hO⟩)
 clear hb1 hx1 hW hO
 by_cases hlong:4194304<s.size
 ·have HN:=Hd (Gp s w1 hlong)
  have HD:=Hd (H8 hlong)
  have z0:=HS1.out.2.1.cell 0
  have z1:=HS1.out.2.1.cell 1
  have f0:=HS1.out.2.1.frozen 0
  have f1:=HS1.out.2.1.frozen 1
  have zl:=HS1.out.2.1.lt
  clear hlong
  go_enter Tryz.func18,Tryz.ntmps18
  go_upto_region 1 with fail
  rw[←hw1,←hbe]
  have HG:=Hd hbe
  clear hw1 hbe
  go_wp2_with (first
   |(go_at_call 40;(with_reducible refine HN.out.mono ?_);rintro rr w2 ⟨rfl,rfl⟩)
   |fail)
  have q1:=(HS1.out.2.1.set_ 0 nV).set_ 1 nV
  refine bodyPost_ret (Bd rfl _ _ b 41 _ (0,0) _ rfl q1 Tryz.underlying41 rfl (by kernel_rfl)) rfl ⟨?_,?_⟩
  ·exact(HS1.out.1.setCell (p:=⟨b,0,none⟩) (by show _≤b;rw[HS1.out.2.2.2];exact Nat.le_refl _) _).setCell (p:=⟨b,1,none⟩) (by show _≤b;rw[HS1.out.2.2.2];exact Nat.le_refl _) _
  ·unfold Cz
   rw[HD.out]
   exact rfl
 ·have HN:=Hd (G1 s w1 (by omega))
  have HSs:=Hd (show s.size≤4194304 by omega)
  have HLg:=Hd hlong
  obtain⟨gr,hgr⟩:∃gr,gr=w1.heap.size:=⟨_,rfl⟩
  rw[←hgr]at HN
  have HGr:=Hd hgr
  clear hlong hgr
  go_enter Tryz.func18,Tryz.ntmps18
  go_upto_region 1 with fail
  rw[←hw1,←hbe]
  have HG:=Hd hbe
  clear hw1 hbe
  go_upto_region 5 with (first
   |(go_at_call 40;(with_reducible refine HN.out.mono ?_);rintro rr w2 ⟨rfl,hr2,hb2⟩;have HS2:=Hd (show Blk w2 gr 135 (RB s 0 0)∧Below w1.heap.size w1 w2 from⟨hr2,HGr.out▸hb2⟩);clear hr2 hb2)
   |fail)
  obtain⟨g,hg⟩:∃g,g=w2.heap.size:=⟨_,rfl⟩
  obtain⟨w3,hw3⟩:∃w3,w3=w2.alloc (.cells #[.pointer (some ⟨gr,0,none⟩),.int .i64 256] 85):=⟨_,rfl⟩
  have HS3:=Hd (show RSt g gr s ((256:Nat):Int) 0 0 w3∧Blk w3 b 41 #[.slice none 0 0,.slice none 0 0]∧Tab w g gr w3∧b+1≤g∧(b+1≤gr∧gr<g)∧Below w.heap.size w w3∧w3.heap.size=g+1 from by
   have hb3:Below w2.heap.size w2 w3:=by rw[hw3];exact Ag _ _
   have k1:=HS1.out.2.2.1
   have k2:=HS1.out.2.2.2
   have k3:=HGr.out
   have k4:=HS2.out.2.size
   have k5:=HS2.out.1.lt
   have hB:Below w.heap.size w w3:=Aa HS1.out.1 (Aa HS2.out.2 hb3)
   refine⟨⟨by rw[hg,hw3];exact Blk.new _ _ _,HS2.out.1.below hb3 k5,Nat.zero_le _,HSs.out⟩,(HS1.out.2.1.below HS2.out.2 HS1.out.2.1.lt).below hb3 (by omega),⟨HTab.out.1,HTab.out.2,hB,by omega,by omega⟩,by omega,⟨by omega,by omega⟩,hB,by rw[hw3,hg];simp⟩)
  rw[←hw3,←hg]
  have HGg:=Hd hg
  clear hw3 hg HN HS2
  have HO:=Hd (NS (fun m a e W hm hW hT=>KZ hm (HS3.out.2.2.1.touch hT) hW) HS3.out.1)
  go_upto_region 6 with (first
   |(go_at_call 41;(with_reducible refine HO.out.mono ?_);rintro rr w4 ⟨l,m,v,a4,e4,rfl,hl,hm,hs,hr,ht⟩;obtain⟨al,cl,rfl⟩:=hl.form;have hz4:=HS3.out.1.far ht HS3.out.2.1 (by decide) (by decide);have HL4:=Hd (show LIn Az (Am (g+1)) w4 l (.slice al l.length cl)from hl.more (by have:=HS3.out.2.2.2.2.2.2;omega));have HS4:=Hd (show RSt g gr s (m:Int) a4 e4 w4∧Blk w4 b 41 #[.slice none 0 0,.slice none 0 0]∧Tab w g gr w4∧m≤256∧Ae (RF g gr) w3 w4 from⟨hs,hz4,HS3.out.2.2.1.touch ht,hm,ht⟩);have HR4:=Hd hr;have z0:=hz4.cell 0;have f0:=hz4.frozen 0;have zl:=hz4.lt;clear hl hm hs hr ht hz4)
   |fail)
  obtain⟨w5,hw5⟩:∃w5,w5=w4.setCell ⟨b,0,none⟩ (.slice al l.length cl):=⟨_,rfl⟩
  have HS5:=Hd (show RSt g gr s (m:Int) a4 e4 w5∧Blk w5 b 41 #[.slice al l.length cl,.slice none 0 0]∧Tab w g gr w5∧LIn Az (Am (g+1)) w5 l (.slice al l.length cl)from by
   have hne:b≠g∧b≠gr:=by have:=HS3.out;omega
   rw[hw5]
   refine⟨HS4.out.1.set (p:=⟨b,0,none⟩) hne.1 hne.2 _,HS4.out.2.1.set_ 0 _,⟨HTab.out.1,HTab.out.2,HS4.out.2.2.1.hB.setCell (p:=⟨b,0,none⟩) (by show _≤b;rw[HS1.out.2.2.2];exact Nat.le_refl _) _,HS4.out.2.2.1.lo⟩,HL4.out.set_ (by have:=HS3.out.2.2.2.1;omega)⟩)
  rw[←hw5]
  have HP:=Hd (GL HS4.out.2.2.2.1 HS5.out.2.2.1 HS5.out.1)
  clear hw5 HO z0 f0 zl
  go_upto_region 7 with (first
   |(go_at_call 43;(with_reducible refine HP.out.mono ?_);rintro rr w6 ⟨q,v,a6,e6,rfl,hl,hm,hs,hr,ht⟩;obtain⟨aq,cq,rfl⟩:=hl.form;have hz6:=HS5.out.1.far ht HS5.out.2.1 (by decide) (by decide);have HL6:=Hd (show LIn Az (Am (g+1)) w6 l (.slice al l.length cl)∧LIn AN (Am (g+1)) w6 q (.slice aq q.length cq)from⟨HS5.out.2.2.2.touch ht (by omega) (by have:=HS3.out.2.2.2.2.1;omega),hl.more (by have:=HS5.out.1.rb.lt;omega)⟩);have HS6:=Hd (show RSt g gr s ((m-q.length:Nat):Int) a6 e6 w6∧Blk w6 b 41 #[.slice al l.length cl,.slice none 0 0]∧Tab w g gr w6 from⟨hs,hz6,HS5.out.2.2.1.touch ht⟩);have HR6:=Hd hr;have z1:=hz6.cell 1;have f1:=hz6.frozen 1;have zl:=hz6.lt;clear hl hm hs hr ht hz6)
   |fail)
  obtain⟨w7,hw7⟩:∃w7,w7=w6.setCell ⟨b,1,none⟩ (.slice aq q.length cq):=⟨_,rfl⟩
  have HS7:=Hd (show RSt g gr s ((m-q.length:Nat):Int) a6 e6 w7∧Blk w7 b 41 #[.slice al l.length cl,.slice aq q.length cq]∧Below w.heap.size w w7∧AR (Am (g+1)) w7 ⟨l,q⟩ (.slice al l.length cl) (.slice aq q.length cq)from by
   have hne:b≠g∧b≠gr:=by have:=HS3.out;omega
   have hbg:b<g+1:=by have:=HS3.out.2.2.2.1;omega
   rw[hw7]
   exact⟨HS6.out.1.set (p:=⟨b,1,none⟩) hne.1 hne.2 _,HS6.out.2.1.set_ 1 _,HS6.out.2.2.hB.setCell (p:=⟨b,1,none⟩) (by show _≤b;rw[HS1.out.2.2.2];exact Nat.le_refl _) _,HL6.out.1.set_ hbg,HL6.out.2.set_ hbg⟩)
  rw[←hw7]
  have HR7:=Hd (show Res Hu s 0 0 ⟨l,q⟩ a6 e6 from Al HR4.out (Al HR6.out (A5 _)))
  have c0:w7.cell? ⟨g,0,none⟩=some (.pointer (some ⟨gr,0,none⟩)):=HS7.out.1.rb.cell 0
  have HE:=Hd (PA gr s a6 e6 w7 HS7.out.1.wr HS7.out.1.hat (by have:=HSs.out;omega))
  obtain⟨e7,he7⟩:∃e7,e7=Fe s a6 e6:=⟨_,rfl⟩
  rw[←he7]at HE
  have HE7:=Hd he7
  have HW:=Hd (fun(w':World) (hb:Blk w' gr 135 (RB s a6 e7))=>G5 gr s a6 e7 w' hb)
  clear hw7 z1 f1 zl HL6 HS6 HP HS5 HS4 HL4 HR4 HR6 he7
  by_cases h7:e7=0
  ·subst h7
   go_upto_region 11 with (first
    |(go_at_call 44;(with_reducible refine HE.out.mono ?_);rintro rr w8 ⟨rfl,hb8,ht8⟩;have HS8:=Hd (HS7.out.1.wire hb8 ht8 HS7.out.1.hat);have hb8':=HS7.out.1.far HS8.out.2 HS7.out.2.1 (by decide) (by decide);have HD8:=Hd (show Blk w8 b 41 #[.slice al l.length cl,.slice aq q.length cq]∧LIn Az (Am (g+1)) w8 l (.slice al l.length cl)∧LIn AN (Am (g+1)) w8 q (.slice aq q.length cq)∧Below w.heap.size w w8 from⟨hb8',HS7.out.2.2.2.repos.touch HS8.out.2 (by omega) (by have:=HS3.out.2.2.2.2.1;omega),HS7.out.2.2.2.inst.touch HS8.out.2 (by omega) (by have:=HS3.out.2.2.2.2.1;omega),HS7.out.2.2.1.trans (HS8.out.2.below HS7.out.2.2.1.size (by have:=HS3.out;have:=HS1.out;rintro k hk (e|e)<;>omega))⟩);have HW8:=Hd (HW.out w8 hb8);have z0:=hb8'.cell 0;have z1:=hb8'.cell 1;have f0:=hb8'.frozen 0;have f1:=hb8'.frozen 1;have zl:=hb8'.lt;clear hb8 ht8 hb8')
    |(go_at_call 45;(with_reducible refine HW8.out.mono ?_);rintro rr w9 ⟨rfl,n9,rfl⟩)
    |fail)
   obtain⟨w9,hw9⟩:∃w9,w9=w8.drewN n9:=⟨_,rfl⟩
   have HD9:=Hd (show Blk w9 b 41 #[.slice al l.length cl,.slice aq q.length cq]∧LIn Az (Am (g+1)) w9 l (.slice al l.length cl)∧LIn AN (Am (g+1)) w9 q (.slice aq q.length cq)∧Below w.heap.size w w9 from hw9▸⟨HD8.out.1.drewN n9,HD8.out.2.1.keep (Nat.le_refl _) fun _ k1 _=>⟨rfl,k1⟩,HD8.out.2.2.1.keep (Nat.le_refl _) fun _ k1 _=>⟨rfl,k1⟩,AD HD8.out.2.2.2 n9⟩)
   rw[←hw9]
   clear hw9 HD8 HW8 z0 z1 f0 f1 zl
   have z0:=HD9.out.1.cell 0
   have z1:=HD9.out.1.cell 1
   have f0:=HD9.out.1.frozen 0
   have f1:=HD9.out.1.frozen 1
   have zl:=HD9.out.1.lt
   have hle:w.heap.size≤b:=by rw[HS1.out.2.2.2];exact Nat.le_refl _
   have hbg:b<g+1:=by have:=HS3.out.2.2.2.1;omega
   go_wp2_with fail
   have q1:=(HD9.out.1.set_ 0 (.slice al l.length cl)).set_ 1 (.slice aq q.length cq)
   refine bodyPost_ret (Bd rfl _ _ b 41 _ (0,0) _ rfl q1 Tryz.underlying41 rfl (by kernel_rfl)) rfl ⟨(HD9.out.2.2.2.setCell (p:=⟨b,0,none⟩) hle _).setCell (p:=⟨b,1,none⟩) hle _,?_⟩
   unfold Cz
   rw[JY HLg.out HR7.out HE7.out.symm]
   exact⟨_,_,rfl,((HD9.out.2.1.set_ (i:=0) (u:= .slice al l.length cl) hbg).set_ (i:=1) (u:= .slice aq q.length cq) hbg).more (by omega),((HD9.out.2.2.1.set_ (i:=0) (u:= .slice al l.length cl) hbg).set_ (i:=1) (u:= .slice aq q.length cq) hbg).more (by omega)⟩
  ·have hd7:(e7==0)=false:=by simpa using h7
   have hd8:(e7 !=0)=true:=by simpa using h7
   go_upto_region 10 with (first
    |(go_at_call 44;(with_reducible refine HE.out.mono ?_);rintro rr w8 ⟨rfl,hb8,ht8⟩;have HS8:=Hd (HS7.out.1.wire hb8 ht8 HS7.out.1.hat);have hb8':=HS7.out.1.far HS8.out.2 HS7.out.2.1 (by decide) (by decide);have HD8:=Hd (show Blk w8 b 41 #[.slice al l.length cl,.slice aq q.length cq]∧LIn Az (Am (g+1)) w8 l (.slice al l.length cl)∧LIn AN (Am (g+1)) w8 q (.slice aq q.length cq)∧Below w.heap.size w w8 from⟨hb8',HS7.out.2.2.2.repos.touch HS8.out.2 (by omega) (by have:=HS3.out.2.2.2.2.1;omega),HS7.out.2.2.2.inst.touch HS8.out.2 (by omega) (by have:=HS3.out.2.2.2.2.1;omega),HS7.out.2.2.1.trans (HS8.out.2.below HS7.out.2.2.1.size (by have:=HS3.out;have:=HS1.out;rintro k hk (e|e)<;>omega))⟩);have HW8:=Hd (HW.out w8 hb8);have HW9:=Hd (show Calls Tryz.prog 45 #[.pointer (some ⟨gr,0,none⟩)] w8 (fun r w'=>r= .returned (.tuple #[.int .i64 (a6:Int),.int .i64 e7])∧∃n,w'=w8.drewN n)from by(have h:=HW8.out;rw[if_neg h7]at h;exact h));have z0:=hb8'.cell 0;have z1:=hb8'.cell 1;have f0:=hb8'.frozen 0;have f1:=hb8'.frozen 1;have zl:=hb8'.lt;clear hb8 ht8 hb8')
    |(go_at_call 45;(with_reducible refine HW9.out.mono ?_);rintro rr w9 ⟨rfl,n9,rfl⟩)
    |fail)
   obtain⟨w9,hw9⟩:∃w9,w9=w8.drewN n9:=⟨_,rfl⟩
   have HD9:=Hd (show Blk w9 b 41 #[.slice al l.length cl,.slice aq q.length cq]∧LIn Az (Am (g+1)) w9 l (.slice al l.length cl)∧LIn AN (Am (g+1)) w9 q (.slice aq q.length cq)∧Below w.heap.size w w9 from hw9▸⟨HD8.out.1.drewN n9,HD8.out.2.1.keep (Nat.le_refl _) fun _ k1 _=>⟨rfl,k1⟩,HD8.out.2.2.1.keep (Nat.le_refl _) fun _ k1 _=>⟨rfl,k1⟩,AD HD8.out.2.2.2 n9⟩)
   rw[←hw9]
   clear hw9 HD8 HW8 HW9 z0 z1 f0 f1 zl
   have z0:=HD9.out.1.cell 0
   have z1:=HD9.out.1.cell 1
   have f0:=HD9.out.1.frozen 0
   have f1:=HD9.out.1.frozen 1
   have zl:=HD9.out.1.lt
   have hle:w.heap.size≤b:=by rw[HS1.out.2.2.2];exact Nat.le_refl _
   have hbg:b<g+1:=by have:=HS3.out.2.2.2.1;omega
   go_wp2_with fail
   have q1:=(HD9.out.1.set_ 0 nV).set_ 1 nV
   refine bodyPost_ret (Bd rfl _ _ b 41 _ (0,0) _ rfl q1 Tryz.underlying41 rfl (by kernel_rfl)) rfl ⟨(HD9.out.2.2.2.setCell (p:=⟨b,0,none⟩) hle _).setCell (p:=⟨b,1,none⟩) hle _,?_⟩
   unfold Cz
   rw[LT HLg.out HR7.out (by rw[←HE7.out];exact h7),←HE7.out]
   exact rfl
end Go.Proofs.YtdpjjnbelgaagaaGreatDoor
