/- Codec's reader: rich dependencies. Conditions: as each theorem names them. -/
import Derived.Test.YtdpjjnbelgaagaaGreatDoorG06
namespace Go.Proofs.YtdpjjnbelgaagaaGreatDoor
set_option maxHeartbeats 32000000
open Go.ChangeShapes Go.WideShapes Go.ChangeAt Go.RowKit Go.Deep
set_option maxRecDepth 100000
section
variable {s:ByteArray} {at_ a1 a2 n:Nat} {e e1 e2:Int}
theorem Ht (m:Nat) (x:Ac) (h:Res (Cc 1 7) s at_ e n a1 e1) (he:e1≠0):Res (B7 m) s at_ e x a1 e1:=by
 cases m with
 |zero=>exact BO h (.inl ⟨he,rfl,rfl⟩)
 |succ m=>exact BO h (.inl ⟨he,rfl,rfl⟩)
theorem Gg (m:Nat) {d:Ax} (h:Res (Cc 1 7) s at_ e 1 a1 e1) (k:Res GZ s a1 e1 d a2 e2):Res (B7 m) s at_ e (EV d) a2 e2:=by
 cases m with
 |zero=>exact BO h (by rw[if_pos rfl];exact Al k (A5 _))
 |succ m=>exact BO h (by rw[if_pos rfl];exact Al k (A5 _))
theorem Gf (x:Ac) (hn:n≠1) (h:Res (Cc 1 7) s at_ e n a1 0):Res (B7 0) s at_ e x at_ 21:=
 BO h (by rw[if_neg hn];exact .inr ⟨rfl,.inr ⟨rfl,by decide⟩⟩)
theorem Ek (m:Nat) {l:List Ac} (hn:n≠1) (h:Res (Cc 1 7) s at_ e n a1 e1) (k:Res (Cd 2 24 (B7 m)) s a1 e1 l a2 e2):Res (B7 (m+1)) s at_ e (ofL n l) a2 e2:=
 BO h (by rw[if_neg hn];exact Al k (A5 _))
theorem NE {lo hi:Int} (h:Res (Cc lo hi) s at_ e n a1 0) (hs:at_≤s.size):e=0∧at_≤a1:=by
 rcases h with ⟨h1,_,h2⟩|⟨h1,⟨h2,_⟩|⟨_,h2⟩⟩
 ·exact absurd h2.symm h1
 ·exact⟨h1,((C7 0 lo hi).mono s at_ n a1 (Nat.zero_le _) hs h2).1⟩
 ·exact absurd rfl h2
end
theorem BL:EI.fit:=⟨by decide,by decide,by decide⟩
theorem C1 (n0:Nat) (W:World) (x:Ac) (hx:Ab x= []) (hf:Fd x.kind x.dep):Aj.holds (Am n0) W x nV:=by
 have h:LIn Aj (Am n0) W (Ab x) nV:=by rw[hx];exact LIn.nil _ _ _
 exact h.args hf
theorem La {n0 b i:Nat} {W:World} {l:List Ac} {v u:Value} {k:Int} (h:LIn Aj (Am n0) W l v) (hb:b<n0) (hk:0≤k∧k<256):Aj.holds (Am n0) (W.setCell ⟨b,i,none⟩ u) (ofL k l) v:=by
 have hf:Fd (ofL k l).kind (ofL k l).dep:=⟨BL,hk⟩
 have h2:LIn Aj (Am n0) (W.setCell ⟨b,i,none⟩ u) (Ab (ofL k l)) v:=by
  rw[Bw]
  refine h.keep (by simp) fun q ⟨k1,k2⟩ _=> ?_
  have e:(W.setCell ⟨b,i,none⟩ u).heap[q]?=W.heap[q]?:=Below.heap_setCell _ _ _ _ (by show q≠b;omega)
  exact⟨e,k1,fun j=>(World.frozen?_of_block (w:=W) e).trans (k2 j)⟩
 exact h2.args hf
theorem XSt.new {w:World} {b1 b2 b3:Nat} {c:Array Value} {deep:Int} {g gr:Nat} {s:ByteArray} {left:Int} {a:Nat} {e:Int} {W:World} (h:BSt w b1 b2 b3 deep g gr s left a e W):XSt w b1 b2 b3 W.heap.size c deep g gr s left a e (W.alloc (.cells c 34)):=
 ⟨h.below (Ag _ _),Blk.new _ _ _,h.tt.size,fun e=>by have:=h.rz.lt;omega⟩
theorem FH (m:Nat) (hm:m≤8) (ih:∀k,m=k+1→LX k):LX m:=by
 intro g gr s left at_ e w h
 obtain⟨d,hd⟩:∃d:Int,d=8-(m:Int):=⟨_,rfl⟩
 rw[←hd]
 obtain⟨b1,hb1⟩:∃b,b=w.heap.size:=⟨_,rfl⟩
 obtain⟨b2,hb2⟩:∃b,b=w.heap.size+1:=⟨_,rfl⟩
 obtain⟨b3,hb3⟩:∃b,b=w.heap.size+2:=⟨_,rfl⟩
 obtain⟨w1,hw1⟩:∃w1,w1=(((w.alloc (.cells #[.pointer (some ⟨g,0,none⟩)] 83)).alloc (.cells #[.int .i64 d] 3)).alloc (.cells BQ 34)):=⟨_,rfl⟩
 have HB1:=Hd (show BSt w b1 b2 b3 d g gr s left at_ e w1 from by rw[hb1,hb2,hb3,hw1];exact BSt.start h d)
 have HD:=Hd (show d=8-(m:Int)∧m≤8 from⟨hd,hm⟩)
 have HI:=Hd ih
 have HZ:=Hd (show b1=w.heap.size∧b3=b1+2∧w1.heap.size=b1+3∧at_≤s.size from⟨hb1,by omega,by rw[hw1,hb1];simp,h.hat⟩)
 have HA:=Hd (OE gr s at_ e w1 HB1.out.rs.wr)
 have HN:=Hd (Bv 1 7 (by decide) HB1.out.rs)
 have c0:w1.cell? ⟨g,0,none⟩=some (.pointer (some ⟨gr,0,none⟩)):=HB1.out.rs.rb.cell 0
 have c1:w1.cell? ⟨b1,0,none⟩=some (.pointer (some ⟨g,0,none⟩)):=HB1.out.x1.cell 0
 clear h ih hd hm
 go_enter Tryz.func170,Tryz.ntmps170
 go_upto_region 1 with fail
 rw[←hw1,←hb1]
 rw[show b1+1+1=b3 by omega,show b1+1=b2 by omega]
 clear hw1 hb1 hb2 hb3
 go_upto_region 4 with (first
  |(go_at_call 132;(with_reducible refine HA.out.mono ?_);rintro r w2 ⟨rfl,rfl⟩)
  |(go_at_call 83;(with_reducible refine HN.out.mono ?_);rintro r w3 ⟨n,a1,e1,rfl,hn7,hs3,hr3,ht3,hl3,hz3⟩;have HB3:=Hd (HB1.out.call hs3 ht3);have HR3:=Hd hr3;have HL3:=Hd (show(e1=0→(1:Int)≤(n:Int))∧(e1≠0→n=0)∧(n:Int)≤7 from⟨hl3,hz3,hn7⟩);have hwr8:IntKind.u8.wrap (n:Int)=(n:Int):=(by(rw[IntKind.wrap_u8'];omega));clear hs3 hr3 ht3 hl3 hz3)
  |fail)
 obtain⟨bx,hbx⟩:∃bx,bx=w3.heap.size:=⟨_,rfl⟩
 obtain⟨w4,hw4⟩:∃w4,w4=w3.alloc (.cells #[.int .u8 (n:Int),.string ⟨#[]⟩,.int .u8 0,.int .i64 0,.string ⟨#[]⟩,.string ⟨#[]⟩,.slice none 0 0] 34):=⟨_,rfl⟩
 have HX4:=Hd (show XSt w b1 b2 b3 bx #[.int .u8 (n:Int),.string ⟨#[]⟩,.int .u8 0,.int .i64 0,.string ⟨#[]⟩,.string ⟨#[]⟩,.slice none 0 0] d g gr s left a1 e1 w4 from by rw[hbx,hw4];exact XSt.new HB3.out)
 have HF:=Hd (BW HX4.out.bs.rs)
 have k1:w4.cell? ⟨b1,0,none⟩=some (.pointer (some ⟨g,0,none⟩)):=HX4.out.bs.x1.cell 0
 rw[←hw4,←hbx]
 clear hw4 hbx c0 c1 hn7 HB1 HA HN HB3
 by_cases he1:e1=0
 ·have HF1:=Hd (show Calls Tryz.prog 84 #[.pointer (some ⟨g,0,none⟩)] w4 (fun r w'=>r= .returned (.bool true)∧∃n,w'=w4.drewN n)from HF.out.mono fun r w' ⟨h1,h2⟩=>⟨by rw[h1,he1];rfl,h2⟩)
  clear HF
  go_upto_region 5 with (first
   |(go_at_call 84;(with_reducible refine HF1.out.mono ?_);rintro rr w5 ⟨rfl,n4,rfl⟩)
   |fail)
  obtain⟨w5,hw5⟩:∃w5,w5=w4.drewN n4:=⟨_,rfl⟩
  rw[←hw5]
  have HX5:=Hd (show XSt w b1 b2 b3 bx #[.int .u8 (n:Int),.string ⟨#[]⟩,.int .u8 0,.int .i64 0,.string ⟨#[]⟩,.string ⟨#[]⟩,.slice none 0 0] d g gr s left a1 e1 w5 from hw5▸HX4.out.drewN n4)
  clear hw5 HX4 HF1 k1
  have y0:w5.cell? ⟨bx,0,none⟩=some (.int .u8 (n:Int)):=HX5.out.rx.cell 0
  have y1:w5.cell? ⟨bx,1,none⟩=some (.string ⟨#[]⟩):=HX5.out.rx.cell 1
  have y2:w5.cell? ⟨bx,2,none⟩=some (.int .u8 0):=HX5.out.rx.cell 2
  have y3:w5.cell? ⟨bx,3,none⟩=some (.int .i64 0):=HX5.out.rx.cell 3
  have y4:w5.cell? ⟨bx,4,none⟩=some (.string ⟨#[]⟩):=HX5.out.rx.cell 4
  have y5:w5.cell? ⟨bx,5,none⟩=some (.string ⟨#[]⟩):=HX5.out.rx.cell 5
  have y6:w5.cell? ⟨bx,6,none⟩=some nV:=HX5.out.rx.cell 6
  have yf0:=HX5.out.rx.frozen 0
  have yf1:=HX5.out.rx.frozen 1
  have yf2:=HX5.out.rx.frozen 2
  have yf3:=HX5.out.rx.frozen 3
  have yf4:=HX5.out.rx.frozen 4
  have yf5:=HX5.out.rx.frozen 5
  have yf6:=HX5.out.rx.frozen 6
  have yl:bx<w5.heap.size:=HX5.out.rx.lt
  have k1:w5.cell? ⟨b1,0,none⟩=some (.pointer (some ⟨g,0,none⟩)):=HX5.out.bs.x1.cell 0
  have k2:w5.cell? ⟨b2,0,none⟩=some (.int .i64 d):=HX5.out.bs.x2.cell 0
  have k3:w5.cell? ⟨g,0,none⟩=some (.pointer (some ⟨gr,0,none⟩)):=HX5.out.bs.rs.rb.cell 0
  by_cases hn1:n=1
  ·subst hn1
   have HE5:=Hd (Ic HX5.out.bs.rs)
   go_upto_region 9 with (first
    |(go_at_call 167;(with_reducible refine HE5.out.mono ?_);rintro rr w6 ⟨dd,vd,a2,e2,rfl,⟨rfl,hsm⟩,hs6,hr6,ht6⟩;have HX6:=Hd (HX5.out.call hs6 ht6);have HR6:=Hd hr6;have HSM:=Hd hsm;clear hs6 hr6 ht6 hsm;clear y0 y1 y2 y3 y4 y5 y6 yf0 yf1 yf2 yf3 yf4 yf5 yf6 yl k1 k2 k3;have y0:w6.cell? ⟨bx,0,none⟩=some (.int .u8 (1:Nat)):=HX6.out.rx.cell 0;have y1:w6.cell? ⟨bx,1,none⟩=some (.string ⟨#[]⟩):=HX6.out.rx.cell 1;have y2:w6.cell? ⟨bx,2,none⟩=some (.int .u8 0):=HX6.out.rx.cell 2;have y3:w6.cell? ⟨bx,3,none⟩=some (.int .i64 0):=HX6.out.rx.cell 3;have y4:w6.cell? ⟨bx,4,none⟩=some (.string ⟨#[]⟩):=HX6.out.rx.cell 4;have y5:w6.cell? ⟨bx,5,none⟩=some (.string ⟨#[]⟩):=HX6.out.rx.cell 5;have y6:w6.cell? ⟨bx,6,none⟩=some nV:=HX6.out.rx.cell 6;have yf0:=HX6.out.rx.frozen 0;have yf1:=HX6.out.rx.frozen 1;have yf2:=HX6.out.rx.frozen 2;have yf3:=HX6.out.rx.frozen 3;have yf4:=HX6.out.rx.frozen 4;have yf5:=HX6.out.rx.frozen 5;have yf6:=HX6.out.rx.frozen 6;have yl:bx<w6.heap.size:=HX6.out.rx.lt;have k1:w6.cell? ⟨b1,0,none⟩=some (.pointer (some ⟨g,0,none⟩)):=HX6.out.bs.x1.cell 0;have k2:w6.cell? ⟨b2,0,none⟩=some (.int .i64 d):=HX6.out.bs.x2.cell 0;have k3:w6.cell? ⟨g,0,none⟩=some (.pointer (some ⟨gr,0,none⟩)):=HX6.out.bs.rs.rb.cell 0)
    |fail)
   obtain⟨w7,hw7⟩:∃w7,w7=((((w6.setCell ⟨bx,1,none⟩ (.string dd.name)).setCell ⟨bx,2,none⟩ (.int .u8 dd.op)).setCell ⟨bx,3,none⟩ (.int .i64 dd.ep)).setCell ⟨bx,4,none⟩ (.string dd.ver)).setCell ⟨bx,5,none⟩ (.string dd.rel):=⟨_,rfl⟩
   have HX7:=Hd (show XSt w b1 b2 b3 bx (AV (EV dd) nV) d g gr s left a2 e2 w7 from hw7▸(((((HX6.out.set 1 (.string dd.name)).set 2 (.int .u8 dd.op)).set 3 (.int .i64 dd.ep)).set 4 (.string dd.ver)).set 5 (.string dd.rel)))
   rw[←hw7]
   clear hw7 HX6 HX5 HE5
   clear y0 y1 y2 y3 y4 y5 y6 yf0 yf1 yf2 yf3 yf4 yf5 yf6 yl k1 k2 k3
   have z0:w7.cell? ⟨b3,0,none⟩=some (.int .u8 0):=HX7.out.bs.rz.cell 0
   have zf0:=HX7.out.bs.rz.frozen 0
   have y0:w7.cell? ⟨bx,0,none⟩=some (.int .u8 1):=HX7.out.rx.cell 0
   have yf0:=HX7.out.rx.frozen 0
   have z1:w7.cell? ⟨b3,1,none⟩=some (.string ⟨#[]⟩):=HX7.out.bs.rz.cell 1
   have zf1:=HX7.out.bs.rz.frozen 1
   have y1:w7.cell? ⟨bx,1,none⟩=some (.string dd.name):=HX7.out.rx.cell 1
   have yf1:=HX7.out.rx.frozen 1
   have z2:w7.cell? ⟨b3,2,none⟩=some (.int .u8 0):=HX7.out.bs.rz.cell 2
   have zf2:=HX7.out.bs.rz.frozen 2
   have y2:w7.cell? ⟨bx,2,none⟩=some (.int .u8 dd.op):=HX7.out.rx.cell 2
   have yf2:=HX7.out.rx.frozen 2
   have z3:w7.cell? ⟨b3,3,none⟩=some (.int .i64 0):=HX7.out.bs.rz.cell 3
   have zf3:=HX7.out.bs.rz.frozen 3
   have y3:w7.cell? ⟨bx,3,none⟩=some (.int .i64 dd.ep):=HX7.out.rx.cell 3
   have yf3:=HX7.out.rx.frozen 3
   have z4:w7.cell? ⟨b3,4,none⟩=some (.string ⟨#[]⟩):=HX7.out.bs.rz.cell 4
   have zf4:=HX7.out.bs.rz.frozen 4
   have y4:w7.cell? ⟨bx,4,none⟩=some (.string dd.ver):=HX7.out.rx.cell 4
   have yf4:=HX7.out.rx.frozen 4
   have z5:w7.cell? ⟨b3,5,none⟩=some (.string ⟨#[]⟩):=HX7.out.bs.rz.cell 5
   have zf5:=HX7.out.bs.rz.frozen 5
   have y5:w7.cell? ⟨bx,5,none⟩=some (.string dd.rel):=HX7.out.rx.cell 5
   have yf5:=HX7.out.rx.frozen 5
   have z6:w7.cell? ⟨b3,6,none⟩=some nV:=HX7.out.bs.rz.cell 6
   have zf6:=HX7.out.bs.rz.frozen 6
   have y6:w7.cell? ⟨bx,6,none⟩=some nV:=HX7.out.rx.cell 6
   have yf6:=HX7.out.rx.frozen 6
   have zl:b3<w7.heap.size:=HX7.out.bs.rz.lt
   have yl:bx<w7.heap.size:=HX7.out.rx.lt
   go_wp2_with fail
   obtain⟨q1,q2,q3,q4⟩:=XSt.done (x:=(EV dd)) (r:=nV) (n0:=(b3+1)) HX7.out (by have:=HX7.out.bs.lo.2.2;omega) (by omega) (C1 _ _ _ (by rfl) ⟨HSM.out.fit.1,by show(0:Int)≤1;decide,by show(1:Int)<256;decide⟩)
   exact bodyPost_ret (results_cell_row rfl _ _ b3 34 _ (0,0) _ rfl q1 Tryz.underlying34 rfl (by kernel_rfl)) rfl ⟨(EV dd),_,a2,e2,rfl,⟨_,rfl,q2⟩,q3,Gg m HR3.out HR6.out,q4⟩
  ·have hd1:((n:Int)==1)=false:=by simp;omega
   cases m with
   |zero=>
    obtain rfl:d=8:=by have:=HD.out.1;omega
    have HQ5:=Hd (NE (he1▸HR3.out) HZ.out.2.2.2)
    have HW5:=Hd (JP gr s a1 e1 at_ 21 w5 HX5.out.bs.rs.wr HX5.out.bs.rs.hat (by have:=HX5.out.bs.rs.hs;omega))
    have HE:=Hd (show EQ a1 e1 at_ 21=(21,at_,21)from by rw[he1];unfold EQ;rw[if_neg (by simp),if_neg (by have:=HQ5.out.2;simp;omega),Int.toNat_natCast])
    rw[HE.out]at HW5
    go_upto_region 9 with (first
     |(go_at_call 138;(with_reducible refine HW5.out.mono ?_);rintro rr w6 ⟨rfl,hb6,ht6⟩;have hs6:=HX5.out.bs.rs.wire hb6 ht6 HZ.out.2.2.2;have HX6:=Hd (HX5.out.call hs6.1 hs6.2);clear hs6 hb6 ht6;clear y0 y1 y2 y3 y4 y5 y6 yf0 yf1 yf2 yf3 yf4 yf5 yf6 yl k1 k2 k3)
     |fail)
    have z0:w6.cell? ⟨b3,0,none⟩=some (.int .u8 0):=HX6.out.bs.rz.cell 0
    have zf0:=HX6.out.bs.rz.frozen 0
    have y0:w6.cell? ⟨bx,0,none⟩=some (.int .u8 (n:Int)):=HX6.out.rx.cell 0
    have yf0:=HX6.out.rx.frozen 0
    have z1:w6.cell? ⟨b3,1,none⟩=some (.string ⟨#[]⟩):=HX6.out.bs.rz.cell 1
    have zf1:=HX6.out.bs.rz.frozen 1
    have y1:w6.cell? ⟨bx,1,none⟩=some (.string ⟨#[]⟩):=HX6.out.rx.cell 1
    have yf1:=HX6.out.rx.frozen 1
    have z2:w6.cell? ⟨b3,2,none⟩=some (.int .u8 0):=HX6.out.bs.rz.cell 2
    have zf2:=HX6.out.bs.rz.frozen 2
    have y2:w6.cell? ⟨bx,2,none⟩=some (.int .u8 0):=HX6.out.rx.cell 2
    have yf2:=HX6.out.rx.frozen 2
    have z3:w6.cell? ⟨b3,3,none⟩=some (.int .i64 0):=HX6.out.bs.rz.cell 3
    have zf3:=HX6.out.bs.rz.frozen 3
    have y3:w6.cell? ⟨bx,3,none⟩=some (.int .i64 0):=HX6.out.rx.cell 3
    have yf3:=HX6.out.rx.frozen 3
    have z4:w6.cell? ⟨b3,4,none⟩=some (.string ⟨#[]⟩):=HX6.out.bs.rz.cell 4
    have zf4:=HX6.out.bs.rz.frozen 4
    have y4:w6.cell? ⟨bx,4,none⟩=some (.string ⟨#[]⟩):=HX6.out.rx.cell 4
    have yf4:=HX6.out.rx.frozen 4
    have z5:w6.cell? ⟨b3,5,none⟩=some (.string ⟨#[]⟩):=HX6.out.bs.rz.cell 5
    have zf5:=HX6.out.bs.rz.frozen 5
    have y5:w6.cell? ⟨bx,5,none⟩=some (.string ⟨#[]⟩):=HX6.out.rx.cell 5
    have yf5:=HX6.out.rx.frozen 5
    have z6:w6.cell? ⟨b3,6,none⟩=some nV:=HX6.out.bs.rz.cell 6
    have zf6:=HX6.out.bs.rz.frozen 6
    have y6:w6.cell? ⟨bx,6,none⟩=some nV:=HX6.out.rx.cell 6
    have yf6:=HX6.out.rx.frozen 6
    have zl:b3<w6.heap.size:=HX6.out.bs.rz.lt
    have yl:bx<w6.heap.size:=HX6.out.rx.lt
    go_wp2_with fail
    obtain⟨q1,q2,q3,q4⟩:=XSt.done (x:=(ofL n [])) (r:=nV) (n0:=(b3+1)) (show Hid (XSt w b1 b2 b3 bx (AV (ofL n []) nV) 8 g gr s left at_ 21 w6)from HX6).out (by have:=HX6.out.bs.lo.2.2;omega) (by omega) (C1 _ _ _ (by rfl) ⟨BL,by show(0:Int)≤(n:Int);omega,by show(n:Int)<256;have:=HL3.out.2.2;omega⟩)
    exact bodyPost_ret (results_cell_row rfl _ _ b3 34 _ (0,0) _ rfl q1 Tryz.underlying34 rfl (by kernel_rfl)) rfl ⟨(ofL n []),_,at_,21,rfl,⟨_,rfl,q2⟩,q3,Gf _ hn1 (he1▸HR3.out),q4⟩
   |succ k=>
    have HG5:=Hd (MJ (b1:=b1) (b2:=b2) 2 24 (by decide) (by decide) (B7 k) (fun a e W hW hT=>J1 (m:=k) (by have:=HD.out.2;omega) (HI.out k rfl) hW (HX5.out.bs.rs.far hT HX5.out.bs.x1 (by decide) (by decide)) (by have hx2:=HX5.out.bs.rs.far hT HX5.out.bs.x2 (by decide) (by decide);have hdd:=HD.out.1;rw[hdd]at hx2;exact hx2)) HX5.out.bs.rs)
    have hd8:d<8:=by have:=HD.out.1;omega
    have HY5:=Hd (show bx<w5.heap.size∧b3<w5.heap.size∧w.heap.size≤w5.heap.size from⟨HX5.out.rx.lt,HX5.out.bs.rz.lt,HX5.out.bs.tt.size⟩)
    go_upto_region 9 with (first
     |(go_at_call 168;(with_reducible refine HG5.out.mono ?_);rintro rr w6 ⟨l,vl,a2,e2,rfl,hl6,hs6,hr6,ht6⟩;obtain⟨al,cl,rfl⟩:=hl6.form;have HX6:=Hd (HX5.out.call hs6 ht6);have HR6:=Hd hr6;have HL6:=Hd hl6;clear hs6 hr6 ht6 hl6;clear y0 y1 y2 y3 y4 y5 y6 yf0 yf1 yf2 yf3 yf4 yf5 yf6 yl k1 k2 k3;have y0:w6.cell? ⟨bx,0,none⟩=some (.int .u8 (n:Int)):=HX6.out.rx.cell 0;have y1:w6.cell? ⟨bx,1,none⟩=some (.string ⟨#[]⟩):=HX6.out.rx.cell 1;have y2:w6.cell? ⟨bx,2,none⟩=some (.int .u8 0):=HX6.out.rx.cell 2;have y3:w6.cell? ⟨bx,3,none⟩=some (.int .i64 0):=HX6.out.rx.cell 3;have y4:w6.cell? ⟨bx,4,none⟩=some (.string ⟨#[]⟩):=HX6.out.rx.cell 4;have y5:w6.cell? ⟨bx,5,none⟩=some (.string ⟨#[]⟩):=HX6.out.rx.cell 5;have y6:w6.cell? ⟨bx,6,none⟩=some nV:=HX6.out.rx.cell 6;have yf0:=HX6.out.rx.frozen 0;have yf1:=HX6.out.rx.frozen 1;have yf2:=HX6.out.rx.frozen 2;have yf3:=HX6.out.rx.frozen 3;have yf4:=HX6.out.rx.frozen 4;have yf5:=HX6.out.rx.frozen 5;have yf6:=HX6.out.rx.frozen 6;have yl:bx<w6.heap.size:=HX6.out.rx.lt;have k1:w6.cell? ⟨b1,0,none⟩=some (.pointer (some ⟨g,0,none⟩)):=HX6.out.bs.x1.cell 0;have k2:w6.cell? ⟨b2,0,none⟩=some (.int .i64 d):=HX6.out.bs.x2.cell 0;have k3:w6.cell? ⟨g,0,none⟩=some (.pointer (some ⟨gr,0,none⟩)):=HX6.out.bs.rs.rb.cell 0)
     |fail)
    obtain⟨w7,hw7⟩:∃w7,w7=w6.setCell ⟨bx,6,none⟩ (.slice al l.length cl):=⟨_,rfl⟩
    have HX7:=Hd (show XSt w b1 b2 b3 bx (AV (ofL n l) (.slice al l.length cl)) d g gr s left a2 e2 w7 from hw7▸HX6.out.set 6 (.slice al l.length cl))
    have HH7:=Hd (show Aj.holds (Am w5.heap.size) w7 (ofL n l) (.slice al l.length cl)from hw7▸La HL6.out HY5.out.1 (by have:=HL3.out.2.2;omega))
    rw[←hw7]
    clear hw7 HX6 HX5 HG5
    clear y0 y1 y2 y3 y4 y5 y6 yf0 yf1 yf2 yf3 yf4 yf5 yf6 yl k1 k2 k3
    have z0:w7.cell? ⟨b3,0,none⟩=some (.int .u8 0):=HX7.out.bs.rz.cell 0
    have zf0:=HX7.out.bs.rz.frozen 0
    have y0:w7.cell? ⟨bx,0,none⟩=some (.int .u8 (n:Int)):=HX7.out.rx.cell 0
    have yf0:=HX7.out.rx.frozen 0
    have z1:w7.cell? ⟨b3,1,none⟩=some (.string ⟨#[]⟩):=HX7.out.bs.rz.cell 1
    have zf1:=HX7.out.bs.rz.frozen 1
    have y1:w7.cell? ⟨bx,1,none⟩=some (.string ⟨#[]⟩):=HX7.out.rx.cell 1
    have yf1:=HX7.out.rx.frozen 1
    have z2:w7.cell? ⟨b3,2,none⟩=some (.int .u8 0):=HX7.out.bs.rz.cell 2
    have zf2:=HX7.out.bs.rz.frozen 2
    have y2:w7.cell? ⟨bx,2,none⟩=some (.int .u8 0):=HX7.out.rx.cell 2
    have yf2:=HX7.out.rx.frozen 2
    have z3:w7.cell? ⟨b3,3,none⟩=some (.int .i64 0):=HX7.out.bs.rz.cell 3
    have zf3:=HX7.out.bs.rz.frozen 3
    have y3:w7.cell? ⟨bx,3,none⟩=some (.int .i64 0):=HX7.out.rx.cell 3
    have yf3:=HX7.out.rx.frozen 3
    have z4:w7.cell? ⟨b3,4,none⟩=some (.string ⟨#[]⟩):=HX7.out.bs.rz.cell 4
    have zf4:=HX7.out.bs.rz.frozen 4
    have y4:w7.cell? ⟨bx,4,none⟩=some (.string ⟨#[]⟩):=HX7.out.rx.cell 4
    have yf4:=HX7.out.rx.frozen 4
    have z5:w7.cell? ⟨b3,5,none⟩=some (.string ⟨#[]⟩):=HX7.out.bs.rz.cell 5
    have zf5:=HX7.out.bs.rz.frozen 5
    have y5:w7.cell? ⟨bx,5,none⟩=some (.string ⟨#[]⟩):=HX7.out.rx.cell 5
    have yf5:=HX7.out.rx.frozen 5
    have z6:w7.cell? ⟨b3,6,none⟩=some nV:=HX7.out.bs.rz.cell 6
    have zf6:=HX7.out.bs.rz.frozen 6
    have y6:w7.cell? ⟨bx,6,none⟩=some (.slice al l.length cl):=HX7.out.rx.cell 6
    have yf6:=HX7.out.rx.frozen 6
    have zl:b3<w7.heap.size:=HX7.out.bs.rz.lt
    have yl:bx<w7.heap.size:=HX7.out.rx.lt
    go_wp2_with fail
    obtain⟨q1,q2,q3,q4⟩:=XSt.done (x:=(ofL n l)) (r:=(.slice al l.length cl)) (n0:=w5.heap.size) HX7.out HY5.out.2.2 HY5.out.2.1 HH7.out
    exact bodyPost_ret (results_cell_row rfl _ _ b3 34 _ (0,0) _ rfl q1 Tryz.underlying34 rfl (by kernel_rfl)) rfl ⟨(ofL n l),_,a2,e2,rfl,⟨_,rfl,q2⟩,q3,Ek k hn1 HR3.out HR6.out,q4⟩
 ·obtain rfl:n=0:=HL3.out.2.1 he1
  have HF1:=Hd (show Calls Tryz.prog 84 #[.pointer (some ⟨g,0,none⟩)] w4 (fun r w'=>r= .returned (.bool false)∧∃n,w'=w4.drewN n)from HF.out.mono fun r w' ⟨h1,h2⟩=>⟨by rw[h1,decide_eq_false he1],h2⟩)
  clear HF
  go_upto_region 9 with (first
   |(go_at_call 84;(with_reducible refine HF1.out.mono ?_);rintro rr w5 ⟨rfl,n4,rfl⟩)
   |fail)
  obtain⟨w5,hw5⟩:∃w5,w5=w4.drewN n4:=⟨_,rfl⟩
  rw[←hw5]
  have HX5:=Hd (show XSt w b1 b2 b3 bx (AV (ofL 0 []) nV) d g gr s left a1 e1 w5 from hw5▸HX4.out.drewN n4)
  clear hw5 HX4 HF1 k1
  have z0:w5.cell? ⟨b3,0,none⟩=some (.int .u8 0):=HX5.out.bs.rz.cell 0
  have zf0:=HX5.out.bs.rz.frozen 0
  have y0:w5.cell? ⟨bx,0,none⟩=some (.int .u8 0):=HX5.out.rx.cell 0
  have yf0:=HX5.out.rx.frozen 0
  have z1:w5.cell? ⟨b3,1,none⟩=some (.string ⟨#[]⟩):=HX5.out.bs.rz.cell 1
  have zf1:=HX5.out.bs.rz.frozen 1
  have y1:w5.cell? ⟨bx,1,none⟩=some (.string ⟨#[]⟩):=HX5.out.rx.cell 1
  have yf1:=HX5.out.rx.frozen 1
  have z2:w5.cell? ⟨b3,2,none⟩=some (.int .u8 0):=HX5.out.bs.rz.cell 2
  have zf2:=HX5.out.bs.rz.frozen 2
  have y2:w5.cell? ⟨bx,2,none⟩=some (.int .u8 0):=HX5.out.rx.cell 2
  have yf2:=HX5.out.rx.frozen 2
  have z3:w5.cell? ⟨b3,3,none⟩=some (.int .i64 0):=HX5.out.bs.rz.cell 3
  have zf3:=HX5.out.bs.rz.frozen 3
  have y3:w5.cell? ⟨bx,3,none⟩=some (.int .i64 0):=HX5.out.rx.cell 3
  have yf3:=HX5.out.rx.frozen 3
  have z4:w5.cell? ⟨b3,4,none⟩=some (.string ⟨#[]⟩):=HX5.out.bs.rz.cell 4
  have zf4:=HX5.out.bs.rz.frozen 4
  have y4:w5.cell? ⟨bx,4,none⟩=some (.string ⟨#[]⟩):=HX5.out.rx.cell 4
  have yf4:=HX5.out.rx.frozen 4
  have z5:w5.cell? ⟨b3,5,none⟩=some (.string ⟨#[]⟩):=HX5.out.bs.rz.cell 5
  have zf5:=HX5.out.bs.rz.frozen 5
  have y5:w5.cell? ⟨bx,5,none⟩=some (.string ⟨#[]⟩):=HX5.out.rx.cell 5
  have yf5:=HX5.out.rx.frozen 5
  have z6:w5.cell? ⟨b3,6,none⟩=some nV:=HX5.out.bs.rz.cell 6
  have zf6:=HX5.out.bs.rz.frozen 6
  have y6:w5.cell? ⟨bx,6,none⟩=some nV:=HX5.out.rx.cell 6
  have yf6:=HX5.out.rx.frozen 6
  have zl:b3<w5.heap.size:=HX5.out.bs.rz.lt
  have yl:bx<w5.heap.size:=HX5.out.rx.lt
  go_wp2_with fail
  obtain⟨q1,q2,q3,q4⟩:=XSt.done (x:=(ofL 0 [])) (r:=nV) (n0:=(b3+1)) HX5.out (by have:=HX5.out.bs.lo.2.2;omega) (by omega) (C1 _ _ _ (by rfl) ⟨BL,by show(0:Int)≤0;decide,by show(0:Int)<256;decide⟩)
  exact bodyPost_ret (results_cell_row rfl _ _ b3 34 _ (0,0) _ rfl q1 Tryz.underlying34 rfl (by kernel_rfl)) rfl ⟨(ofL 0 []),_,a1,e1,rfl,⟨_,rfl,q2⟩,q3,Ht m _ HR3.out he1,q4⟩
theorem GK:∀m:Nat,m≤8→LX m
 |0,_=>FH 0 (by omega) fun k hk=>by omega
 |m+1,h=>FH (m+1) h fun k hk=>by
  obtain rfl:m=k:=by omega
  exact GK m (by omega)
structure XR (w:World) (b bx:Nat) (c:Array Value) (g:Nat) (s:ByteArray) (a:Nat) (e:Int) (W:World):Prop where
 ds:DR g s a e W
 rz:Blk W b 34 BQ
 rx:Blk W bx 34 c
 tt:Ae (·=g) w W
 lg:g<w.heap.size
 lo:w.heap.size≤b
 nx:b<bx
section
variable {w:World} {b bx:Nat} {c:Array Value} {g:Nat} {s:ByteArray} {a a':Nat} {e e':Int} {W W':World}
theorem XR.call (h:XR w b bx c g s a e W) (hr:DR g s a' e' W') (ht:Ae (·=g) W W'):XR w b bx c g s a' e' W':=
 ⟨hr,h.rz.touch ht (by have:=h.lg;have:=h.lo;omega),h.rx.touch ht (by have:=h.lg;have:=h.lo;have:=h.nx;omega),h.tt.trans ht fun _ _ h=>h,h.lg,h.lo,h.nx⟩
theorem XR.below (h:XR w b bx c g s a e W) (hb:Below W.heap.size W W'):XR w b bx c g s a e W':=h.call (h.ds.below hb) (Ae.of_below hb _)
theorem XR.set (h:XR w b bx c g s a e W) (i:Nat) (v:Value):XR w b bx (c.setIfInBounds i v) g s a e (W.setCell ⟨bx,i,none⟩ v):=
 ⟨h.ds.far (by have:=h.lg;have:=h.lo;have:=h.nx;omega),h.rz.far (by show b≠bx;have:=h.nx;omega) v,h.rx.set_ i v,h.tt.setCell (p:=⟨bx,i,none⟩) (fun k=>absurd k (by show¬bx<w.heap.size;have:=h.lo;have:=h.nx;omega)) v,h.lg,h.lo,h.nx⟩
theorem XR.done {x:Ac} {r:Value} {n0:Nat} (h:XR w b bx (AV x r) g s a e W) (hn:w.heap.size≤n0) (hb:b<n0) (hx:Aj.holds (Am n0) W x r):
 Blk (W.setRow b (AV x r)) b 34 (AV x r)∧Aj.holds (Am w.heap.size) (W.setRow b (AV x r)) x r∧DR g s a e (W.setRow b (AV x r))∧Ae (·=g) w (W.setRow b (AV x r)):=by
 have hne:g≠b:=by have:=h.lg;have:=h.lo;omega
 refine⟨h.rz.row _,?_,⟨h.ds.rb.keep (setRow_other W b g _ hne),h.ds.hat,h.ds.hs⟩,h.tt.setRow (fun k=>absurd k (by have:=h.lo;omega)) _⟩
 refine D4 hn (Aj.keep hx (by rw[size_setRow];exact Nat.le_refl _) fun q ⟨k1,k2⟩ _=> ?_)
 have e:=setRow_other W b q (AV x r) (by omega)
 exact⟨e,k1,fun i=>(World.frozen?_of_block (w:=W) e).trans (k2 i)⟩
theorem XR.push {l:List Ac} {v v':Value} {x:Ac} {r:Value} {xs:List Value} {m0:Nat} (h:XR w b bx c g s a e W) (hac:Acc Aj 34 (bx+1) W l v) (hown:Own W 34 7 v l.length xs) (hm:bx+1≤m0) (hv:∀k,v.ownBlock=some k→k<m0)
 (hx:Aj.holds (Am m0) W x r) (hO:Own W' 34 7 v' (l.length+1) (xs++Aj.cells x r)) (hg:W.grownBy W' v.ownBlock) (hat:v'.ownBlock=v.ownBlock∨v'.ownBlock=some W.heap.size):
 XR w b bx c g s a e W'∧Acc Aj 34 (bx+1) W' (l++ [x]) v':=by
 have hlo:∀k,v.ownBlock=some k→bx+1≤k:=by
  obtain⟨ps,_,_,h3,_⟩:=hac.ex
  exact h3
 have hne:∀k,k≤bx→v.ownBlock≠some k:=fun k hk e=>by have:=hlo k e;omega
 have h1:=h.lg
 have h2:=h.lo
 have h3:=h.nx
 have hl:=h.rx.lt
 exact⟨⟨⟨h.ds.rb.grown hg (fun e=>hne g (by omega) e.symm),h.ds.hat,h.ds.hs⟩,h.rz.grown hg (fun e=>hne b (by omega) e.symm),h.rx.grown hg (fun e=>hne bx (by omega) e.symm),h.tt.trans (Ae.of_grown (F:=fun k=>v.ownBlock=some k) hg fun k e=>e) fun x hx e=>absurd e (hne x (by omega)),h1,h2,h3⟩,
  Acc.push hown hac hm hx hv (by omega) hO hg hat⟩
theorem QE {n0:Nat} {l:List Ac} {v:Value} (h:Acc Aj 34 n0 W l v) (ht:Ae (·=g) W W') (hg:g<n0):Acc Aj 34 n0 W' l v:=
 h.keep ht.size fun k h1 h2=>ht.block k h2 (by omega)
theorem LA {x:Ac} {r:Value} {m0:Nat} {W1:World} (h:Aj.holds (Am W1.heap.size) W x r) (hm:m0≤W1.heap.size) (hb:Below W.heap.size W W'):Aj.holds (Am m0) W' x r:=
 Aj.keep h hb.size fun q ⟨k1,k2⟩ k3=>⟨hb.block q k3,by omega,fun i=>(World.frozen?_of_block (w:=W) (hb.block q k3)).trans (k2 i)⟩
theorem PZ {n0 i:Nat} {l:List Ac} {v u:Value} (h:Acc Aj 34 n0 W l v) (hb:bx<n0):Acc Aj 34 n0 (W.setCell ⟨bx,i,none⟩ u) l v:=
 h.keep (by simp) fun k hk _=>Below.heap_setCell W ⟨bx,i,none⟩ u k (by show k≠bx;omega)
end
def Lc (m:Nat):Prop:=∀(g:Nat) (s:ByteArray) (at_:Nat) (e:Int) (w:World),DR g s at_ e w→Calls Tryz.prog 154 #[.pointer (some ⟨g,0,none⟩),.int .i64 (8-m:Int)] w
 fun ret w'=>∃(x:Ac) (r:Value) (at2:Nat) (e2:Int),ret= .returned (x.val r)∧Aj.holds (Am w.heap.size) w' x r∧DR g s at2 e2 w'∧Res (B7 m) s at_ e x at2 e2∧Ae (·=g) w w'
theorem EC (m:Nat) (hm:m≤8) (ih:∀k,m=k+1→Lc k):Lc m:=by
 intro g s at_ e w h
 obtain⟨d,hd⟩:∃d:Int,d=8-(m:Int):=⟨_,rfl⟩
 rw[←hd]
 obtain⟨b,hb⟩:∃b,b=w.heap.size:=⟨_,rfl⟩
 obtain⟨w1,hw1⟩:∃w1,w1=w.alloc (.cells BQ 34):=⟨_,rfl⟩
 have hb1:Below w.heap.size w w1:=by rw[hw1];exact Ag _ _
 have HZ1:=Hd (show DR g s at_ e w1∧Blk w1 b 34 BQ∧Ae (·=g) w w1 from⟨h.below hb1,by rw[hw1,hb];exact Blk.new _ _ _,Ae.of_below hb1 _⟩)
 have HL:=Hd (show g<w.heap.size∧b=w.heap.size∧at_≤s.size from⟨h.rb.lt,hb,h.hat⟩)
 have HD:=Hd (show d=8-(m:Int)∧m≤8 from⟨hd,hm⟩)
 have HI:=Hd ih
 have HN:=Hd (DE HZ1.out.1 1 7 (by decide))
 have c1:w1.cell? ⟨g,1,none⟩=some (.int .i64 at_):=HZ1.out.1.rb.cell 1
 have cl:=HZ1.out.1.rb.lt
 clear h ih hd hm hb1
 go_enter Tryz.func154,Tryz.ntmps154
 go_upto_region 1 with fail
 rw[←hw1,←hb]
 clear hw1 hb
 go_upto_region 3 with (first
  |(go_at_call 57;(with_reducible refine HN.out.mono ?_);rintro r w3 ⟨n,a1,e1,rfl,hn7,hs3,hr3,ht3,hl3,hz3⟩;have HZ3:=Hd (show DR g s a1 e1 w3∧Blk w3 b 34 BQ∧Ae (·=g) w w3 from⟨hs3,HZ1.out.2.1.touch ht3 (by have:=HL.out;omega),HZ1.out.2.2.trans ht3 fun _ _ h=>h⟩);have HR3:=Hd hr3;have HL3:=Hd (show(e1=0→(1:Int)≤(n:Int))∧(e1≠0→n=0)∧(n:Int)≤7 from⟨hl3,hz3,hn7⟩);have hwr8:IntKind.u8.wrap (n:Int)=(n:Int):=(by(rw[IntKind.wrap_u8'];omega));clear hs3 hr3 ht3 hl3 hz3)
  |fail)
 obtain⟨bx,hbx⟩:∃bx,bx=w3.heap.size:=⟨_,rfl⟩
 obtain⟨w4,hw4⟩:∃w4,w4=w3.alloc (.cells #[.int .u8 (n:Int),.string ⟨#[]⟩,.int .u8 0,.int .i64 0,.string ⟨#[]⟩,.string ⟨#[]⟩,.slice none 0 0] 34):=⟨_,rfl⟩
 have HX4:=Hd (show XR w b bx #[.int .u8 (n:Int),.string ⟨#[]⟩,.int .u8 0,.int .i64 0,.string ⟨#[]⟩,.string ⟨#[]⟩,.slice none 0 0] g s a1 e1 w4 from by
  have hb4:Below w3.heap.size w3 w4:=by rw[hw4];exact Ag _ _
  exact⟨HZ3.out.1.below hb4,HZ3.out.2.1.below hb4 HZ3.out.2.1.lt,by rw[hw4,hbx];exact Blk.new _ _ _,HZ3.out.2.2.trans (Ae.of_below hb4 _) fun _ _ h=>h,HL.out.1,by have:=HL.out.2.1;omega,by rw[hbx];exact HZ3.out.2.1.lt⟩)
 rw[←hw4,←hbx]
 clear hw4 hbx c1 cl hn7
 have y0:w4.cell? ⟨bx,0,none⟩=some (.int .u8 (n:Int)):=HX4.out.rx.cell 0
 have y1:w4.cell? ⟨bx,1,none⟩=some (.string ⟨#[]⟩):=HX4.out.rx.cell 1
 have y2:w4.cell? ⟨bx,2,none⟩=some (.int .u8 0):=HX4.out.rx.cell 2
 have y3:w4.cell? ⟨bx,3,none⟩=some (.int .i64 0):=HX4.out.rx.cell 3
 have y4:w4.cell? ⟨bx,4,none⟩=some (.string ⟨#[]⟩):=HX4.out.rx.cell 4
 have y5:w4.cell? ⟨bx,5,none⟩=some (.string ⟨#[]⟩):=HX4.out.rx.cell 5
 have y6:w4.cell? ⟨bx,6,none⟩=some nV:=HX4.out.rx.cell 6
 have yf0:w4.frozen? ⟨bx,0,none⟩=false:=HX4.out.rx.frozen 0
 have yf1:w4.frozen? ⟨bx,1,none⟩=false:=HX4.out.rx.frozen 1
 have yf2:w4.frozen? ⟨bx,2,none⟩=false:=HX4.out.rx.frozen 2
 have yf3:w4.frozen? ⟨bx,3,none⟩=false:=HX4.out.rx.frozen 3
 have yf4:w4.frozen? ⟨bx,4,none⟩=false:=HX4.out.rx.frozen 4
 have yf5:w4.frozen? ⟨bx,5,none⟩=false:=HX4.out.rx.frozen 5
 have yf6:w4.frozen? ⟨bx,6,none⟩=false:=HX4.out.rx.frozen 6
 have yl:bx<w4.heap.size:=HX4.out.rx.lt
 have c2:w4.cell? ⟨g,2,none⟩=some (.int .i64 e1):=HX4.out.ds.rb.cell 2
 have cl:=HX4.out.ds.rb.lt
 by_cases he1:e1=0
 ·subst he1
  by_cases hn1:n=1
  ·subst hn1
   have HE5:=Hd (Fr HX4.out.ds)
   go_upto_region 7 with (first
    |(go_at_call 153;(with_reducible refine HE5.out.mono ?_);rintro rr w6 ⟨dd,a2,e2,rfl,hsm,hs6,hr6,ht6⟩;have HX6:=Hd (HX4.out.call hs6 ht6);have HR6:=Hd hr6;have HSM:=Hd hsm;clear hs6 hr6 ht6 hsm;clear y0 y1 y2 y3 y4 y5 y6 yf0 yf1 yf2 yf3 yf4 yf5 yf6 yl c2 cl
      have y0:w6.cell? ⟨bx,0,none⟩=some (.int .u8 (1:Nat)):=HX6.out.rx.cell 0
      have y1:w6.cell? ⟨bx,1,none⟩=some (.string ⟨#[]⟩):=HX6.out.rx.cell 1
      have y2:w6.cell? ⟨bx,2,none⟩=some (.int .u8 0):=HX6.out.rx.cell 2
      have y3:w6.cell? ⟨bx,3,none⟩=some (.int .i64 0):=HX6.out.rx.cell 3
      have y4:w6.cell? ⟨bx,4,none⟩=some (.string ⟨#[]⟩):=HX6.out.rx.cell 4
      have y5:w6.cell? ⟨bx,5,none⟩=some (.string ⟨#[]⟩):=HX6.out.rx.cell 5
      have y6:w6.cell? ⟨bx,6,none⟩=some nV:=HX6.out.rx.cell 6
      have yf0:w6.frozen? ⟨bx,0,none⟩=false:=HX6.out.rx.frozen 0
      have yf1:w6.frozen? ⟨bx,1,none⟩=false:=HX6.out.rx.frozen 1
      have yf2:w6.frozen? ⟨bx,2,none⟩=false:=HX6.out.rx.frozen 2
      have yf3:w6.frozen? ⟨bx,3,none⟩=false:=HX6.out.rx.frozen 3
      have yf4:w6.frozen? ⟨bx,4,none⟩=false:=HX6.out.rx.frozen 4
      have yf5:w6.frozen? ⟨bx,5,none⟩=false:=HX6.out.rx.frozen 5
      have yf6:w6.frozen? ⟨bx,6,none⟩=false:=HX6.out.rx.frozen 6
      have yl:bx<w6.heap.size:=HX6.out.rx.lt
      have c2:w6.cell? ⟨g,2,none⟩=some (.int .i64 e2):=HX6.out.ds.rb.cell 2
      have cl:=HX6.out.ds.rb.lt)
    |fail)
   obtain⟨w7,hw7⟩:∃w7,w7=((((w6.setCell ⟨bx,1,none⟩ (.string dd.name)).setCell ⟨bx,2,none⟩ (.int .u8 dd.op)).setCell ⟨bx,3,none⟩ (.int .i64 dd.ep)).setCell ⟨bx,4,none⟩ (.string dd.ver)).setCell ⟨bx,5,none⟩ (.string dd.rel):=⟨_,rfl⟩
   have HX7:=Hd (show XR w b bx (AV (EV dd) nV) g s a2 e2 w7 from hw7▸(((((HX6.out.set 1 (.string dd.name)).set 2 (.int .u8 dd.op)).set 3 (.int .i64 dd.ep)).set 4 (.string dd.ver)).set 5 (.string dd.rel)))
   rw[←hw7]
   clear hw7
   clear y0 y1 y2 y3 y4 y5 y6 yf0 yf1 yf2 yf3 yf4 yf5 yf6 yl c2 cl
   have y0:w7.cell? ⟨bx,0,none⟩=some (.int .u8 1):=HX7.out.rx.cell 0
   have y1:w7.cell? ⟨bx,1,none⟩=some (.string dd.name):=HX7.out.rx.cell 1
   have y2:w7.cell? ⟨bx,2,none⟩=some (.int .u8 dd.op):=HX7.out.rx.cell 2
   have y3:w7.cell? ⟨bx,3,none⟩=some (.int .i64 dd.ep):=HX7.out.rx.cell 3
   have y4:w7.cell? ⟨bx,4,none⟩=some (.string dd.ver):=HX7.out.rx.cell 4
   have y5:w7.cell? ⟨bx,5,none⟩=some (.string dd.rel):=HX7.out.rx.cell 5
   have y6:w7.cell? ⟨bx,6,none⟩=some nV:=HX7.out.rx.cell 6
   have yl:bx<w7.heap.size:=HX7.out.rx.lt
   have c2:w7.cell? ⟨g,2,none⟩=some (.int .i64 e2):=HX7.out.ds.rb.cell 2
   have cl:=HX7.out.ds.rb.lt
   have HBz:=Hd HX7.out.rz
   go_wp2_with (first
    |(refine wpList_store_rowTo rfl 34 (.tmp 4) (.tmp 29) rfl rfl b #[.int .u8 1,.string dd.name,.int .u8 dd.op,.int .i64 dd.ep,.string dd.ver,.string dd.rel,.slice none 0 0] rfl (by kernel_rfl) 34 _ HBz.out (by kernel_rfl) rfl (by kernel_rfl) ?_)
    |fail)
   obtain⟨q1,q2,q3,q4⟩:=XR.done (x:=(EV dd)) (r:=nV) (n0:=(b+1)) HX7.out (by have:=HX7.out.lo;omega) (by omega) (C1 _ _ _ (by rfl) ⟨HSM.out.fit.1,by show(0:Int)≤1;decide,by show(1:Int)<256;decide⟩)
   exact bodyPost_ret (results_cell_row rfl _ _ b 34 _ (0,0) _ rfl q1 Tryz.underlying34 rfl (by kernel_rfl)) rfl ⟨(EV dd),nV,a2,e2,rfl,q2,q3,Gg m HR3.out HR6.out,q4⟩
  ·have hd1:((n:Int)==1)=false:=by simp;omega
   have hn1i:¬(n:Int)=1:=by omega
   cases m with
   |zero=>
    obtain rfl:d=8:=by have:=HD.out.1;omega
    have HQ5:=Hd (NE HR3.out HL.out.2.2)
    have HW5:=Hd (H6 HX4.out.ds at_ HQ5.out.2 21 (by decide))
    go_upto_region 10 with (first
     |(go_at_call 109;(with_reducible refine HW5.out.mono ?_);rintro rr w6 ⟨rfl,hs6,ht6⟩;have HX6:=Hd (show XR w b bx (AV (ofL n []) nV) g s at_ 21 w6 from HX4.out.call hs6 ht6);clear hs6 ht6;clear y0 y1 y2 y3 y4 y5 y6 yf0 yf1 yf2 yf3 yf4 yf5 yf6 yl c2 cl)
     |fail)
    have y0:w6.cell? ⟨bx,0,none⟩=some (.int .u8 (n:Int)):=HX6.out.rx.cell 0
    have y1:w6.cell? ⟨bx,1,none⟩=some (.string ⟨#[]⟩):=HX6.out.rx.cell 1
    have y2:w6.cell? ⟨bx,2,none⟩=some (.int .u8 0):=HX6.out.rx.cell 2
    have y3:w6.cell? ⟨bx,3,none⟩=some (.int .i64 0):=HX6.out.rx.cell 3
    have y4:w6.cell? ⟨bx,4,none⟩=some (.string ⟨#[]⟩):=HX6.out.rx.cell 4
    have y5:w6.cell? ⟨bx,5,none⟩=some (.string ⟨#[]⟩):=HX6.out.rx.cell 5
    have y6:w6.cell? ⟨bx,6,none⟩=some nV:=HX6.out.rx.cell 6
    have yl:bx<w6.heap.size:=HX6.out.rx.lt
    have c2:w6.cell? ⟨g,2,none⟩=some (.int .i64 21):=HX6.out.ds.rb.cell 2
    have cl:=HX6.out.ds.rb.lt
    have HBz:=Hd HX6.out.rz
    go_wp2_with (first
     |(refine wpList_store_rowTo rfl 34 (.tmp 4) (.tmp 35) rfl rfl b #[.int .u8 (n:Int),.string ⟨#[]⟩,.int .u8 0,.int .i64 0,.string ⟨#[]⟩,.string ⟨#[]⟩,.slice none 0 0] rfl (by kernel_rfl) 34 _ HBz.out (by kernel_rfl) rfl (by kernel_rfl) ?_)
     |fail)
    obtain⟨q1,q2,q3,q4⟩:=XR.done (x:=(ofL n [])) (r:=nV) (n0:=(b+1)) HX6.out (by have:=HX6.out.lo;omega) (by omega) (C1 _ _ _ (by rfl) ⟨BL,by show(0:Int)≤(n:Int);omega,by show(n:Int)<256;have:=HL3.out.2.2;omega⟩)
    exact bodyPost_ret (results_cell_row rfl _ _ b 34 _ (0,0) _ rfl q1 Tryz.underlying34 rfl (by kernel_rfl)) rfl ⟨(ofL n []),nV,at_,21,rfl,q2,q3,Gf _ hn1 HR3.out,q4⟩
   |succ k=>
    have HN5:=Hd (DE HX4.out.ds 2 24 (by decide))
    have hd8:0≤d∧d<8:=by have:=HD.out.1;have:=HD.out.2;omega
    have HNn:=Hd hn1
    obtain⟨iR,hiR,hz0,hz1,hz2⟩:=Gt
    clear hn1
    go_wp2_with (first
     |(go_at_call 57;(with_reducible refine HN5.out.mono ?_);rintro rr w6 ⟨n2,a2,e2,rfl,hn24,hs6,hr6,ht6,hl6,hz6⟩;have HX6:=Hd (HX4.out.call hs6 ht6);have HR6:=Hd (DGo.start (p:=B7 k) hr6);clear hs6 hr6 ht6 hl6 hz6;clear y0 y1 y2 y3 y4 y5 y6 yf0 yf1 yf2 yf3 yf4 yf5 yf6 yl c2 cl)
     |fail)
    go_loopw [8] (fun i wr=>∃(j:Nat) (l:List Ac) (ao:Option Addr) (cp a3:Nat) (e3:Int),j≤n2∧i= .int .i64 j∧l.length=j∧Hid (XR w b bx #[.int .u8 (n:Int),.string ⟨#[]⟩,.int .u8 0,.int .i64 0,.string ⟨#[]⟩,.string ⟨#[]⟩,.slice ao j cp] g s a3 e3 wr∧Acc Aj 34 (bx+1) wr l (.slice ao j cp)∧DGo (B7 k) 2 24 s a1 0 n2 j l a3 e3)) (fun i _=>n2-(intOf i).toNat)
    case atStart=>exact⟨0,[],none,0,a2,e2,by omega,rfl,rfl,Hd ⟨HX6.out,Acc.nil _ _ _ _,HR6.out⟩⟩
    case round=>
     obtain⟨j,l,ao,cp,a3,e3,hj,rfl,hl,HQ⟩:=hrel
     have HLe:=Hd hl
     clear hl
     have y0:wr.cell? ⟨bx,0,none⟩=some (.int .u8 (n:Int)):=HQ.out.1.rx.cell 0
     have y1:wr.cell? ⟨bx,1,none⟩=some (.string ⟨#[]⟩):=HQ.out.1.rx.cell 1
     have y2:wr.cell? ⟨bx,2,none⟩=some (.int .u8 0):=HQ.out.1.rx.cell 2
     have y3:wr.cell? ⟨bx,3,none⟩=some (.int .i64 0):=HQ.out.1.rx.cell 3
     have y4:wr.cell? ⟨bx,4,none⟩=some (.string ⟨#[]⟩):=HQ.out.1.rx.cell 4
     have y5:wr.cell? ⟨bx,5,none⟩=some (.string ⟨#[]⟩):=HQ.out.1.rx.cell 5
     have y6:wr.cell? ⟨bx,6,none⟩=some (.slice ao j cp):=HQ.out.1.rx.cell 6
     have yf0:wr.frozen? ⟨bx,0,none⟩=false:=HQ.out.1.rx.frozen 0
     have yf1:wr.frozen? ⟨bx,1,none⟩=false:=HQ.out.1.rx.frozen 1
     have yf2:wr.frozen? ⟨bx,2,none⟩=false:=HQ.out.1.rx.frozen 2
     have yf3:wr.frozen? ⟨bx,3,none⟩=false:=HQ.out.1.rx.frozen 3
     have yf4:wr.frozen? ⟨bx,4,none⟩=false:=HQ.out.1.rx.frozen 4
     have yf5:wr.frozen? ⟨bx,5,none⟩=false:=HQ.out.1.rx.frozen 5
     have yf6:wr.frozen? ⟨bx,6,none⟩=false:=HQ.out.1.rx.frozen 6
     have yl:bx<wr.heap.size:=HQ.out.1.rx.lt
     have c2:wr.cell? ⟨g,2,none⟩=some (.int .i64 e3):=HQ.out.1.ds.rb.cell 2
     have cl:=HQ.out.1.ds.rb.lt
     by_cases hlt:j<n2
     ·have hji:(j:Int)<(n2:Int):=by omega
      by_cases he:e3=0
      ·subst he
       have HLt:=Hd hlt
       have HM:=Hd (fun w' (hb:Below wr.heap.size wr w')=>(show Calls Tryz.prog 154 #[.pointer (some ⟨g,0,none⟩),.int .i64 (IntKind.i64.wrap (d+1))] w' (fun ret w''=>∃(x:Ac) (r:Value) (at2:Nat) (e2:Int),ret= .returned (x.val r)∧Aj.holds (Am w'.heap.size) w'' x r∧DR g s at2 e2 w''∧Res (B7 k) s a3 0 x at2 e2∧Ae (·=g) w' w'')from by
        have h:=HI.out k rfl g s a3 0 w' (HQ.out.1.ds.below hb)
        rw[show(8-(k:Int))=IntKind.i64.wrap (d+1)from by have:=HD.out.1;rw[IntKind.wrap_i64];omega]at h
        exact h))
       obtain⟨xs,hown,hone⟩:=HQ.out.2.1.own
       rw[HLe.out]at hown
       have HO4:=Hd hown
       have HN4:=Hd hone
       have HLo:=Hd (show∀q,(Value.slice ao j cp).ownBlock=some q→bx+1≤q∧q<wr.heap.size from fun q hq=>by
        obtain⟨ps,_,h2,h3,_⟩:=HQ.out.2.1.ex
        exact⟨h3 q hq,h2.lt q hq⟩)
       have HGt:=Hd (show g<w.heap.size∧w.heap.size≤b∧b<bx∧bx<wr.heap.size from⟨HQ.out.1.lg,HQ.out.1.lo,HQ.out.1.nx,HQ.out.1.rx.lt⟩)
       have HDr:=Hd (show Below wr.heap.size wr wr.drew from(Below.refl _ wr).drew)
       have q5:wr.drew.cell? ⟨bx,6,none⟩=some (.slice ao j cp):=y6
       clear hown hone hlt
       go_upto_region 15 with fail
       rw[show Op.load 26 (Operand.tmp 50)=ldR 50 from rfl]
       go_region_held3 (fun _=>True) (exact trivial)
        ((first
          |(go_at_call 154;(with_reducible refine(HM.out _ HDr.out).mono ?_);rintro rr w6 ⟨x,vx,a4,e4,rfl,hx6,hs6,hr6,ht6⟩;obtain⟨ra,rc,rfl⟩:=(AZ.is hx6).form;have HX8:=Hd ((HQ.out.1.below HDr.out).call hs6 ht6);have HT8:=Hd ((Ae.of_below HDr.out (·=g)).trans ht6 fun _ _ h=>h);have HH8:=Hd hx6;have HG8:=Hd (HQ.out.2.2.step HLt.out hr6);have q6:w6.cell? ⟨bx,6,none⟩=some (.slice ao j cp):=HX8.out.rx.cell 6;have q7:(w6.alloc (.cells (AV x (.slice ra x.n rc)) 34)).cell? ⟨bx,6,none⟩=some (.slice ao j cp):=(HX8.out.below (Ag _ _)).rx.cell 6;clear hx6 hs6 hr6 ht6)
          |(refine BI _ (by rfl) (.tmp 51) (.tmp 56) _ _ (by rfl) 34 iR _ 7 96 Tryz.underlying26 hiR hz0 hz1 hz2 rfl (by omega) (.slice ao j cp) j xs (by rfl) ((HO4.out.touch HT8.out fun q hq hg=>by have:=(HLo.out q hq).1;have:=HGt.out;omega).alloc _) HN4.out (.slice (some ⟨w6.heap.size,0,none⟩) 1 1) 1 (AM x (.slice ra x.n rc)) (by rfl) (C4 w6 x (.slice ra x.n rc) rfl) (by simp only[maxLen];omega) (by omega) ?_;intro ao2 cap2 w10 hn2 hm2 hown2 hg2 hat2 hlt2;have HP:=Hd (XR.push (m0:=wr.heap.size) (xs:=xs) (HX8.out.below (Ag w6 (.cells (AV x (.slice ra x.n rc)) 34))) (QE HQ.out.2.1 (HT8.out.trans (Ae.of_below (Ag w6 (.cells (AV x (.slice ra x.n rc)) 34)) _) fun _ _ h=>h) (by have:=HGt.out;omega)) (HLe.out.symm▸(HO4.out.touch HT8.out fun q hq hg=>by have:=(HLo.out q hq).1;have:=HGt.out;omega).alloc _) (by have:=HGt.out;omega) (fun q hq=>(HLo.out q hq).2) (LA HH8.out HDr.out.size (Ag _ _)) (HLe.out.symm▸hown2) hg2 hat2);have c10:=HP.out.1.rx.cell 6;have f10:=HP.out.1.rx.frozen 6;have l10:=HP.out.1.rx.lt;clear hown2 hg2 hat2 hlt2 hn2 hm2)))
       all_goals
        have HS10:=Hd (HP.out.1.set 6 (.slice ao2 (j+1) cap2))
        have HA10:=Hd (PZ (i:=6) (u:= .slice ao2 (j+1) cap2) HP.out.2 (Nat.lt_succ_self bx))
        go_wp2_with fail
        go_roundw
        case rel=>exact⟨j+1,l++ [x],ao2,cap2,a4,e4,HLt.out,by go_num,by rw[List.length_append,HLe.out];rfl,Hd ⟨HS10.out,HA10.out,HG8.out⟩⟩
        case measure=>have:=HLt.out;simp[intOf];omega
      ·have heb:(e3==0)=false:=by simpa using he
       have HE:=Hd he
       have HRs:=Hd (HQ.out.2.2.bad he)
       clear he
       have HXe:=Hd (show XR w b bx (AV (ofL n l) (.slice ao j cp)) g s a3 e3 wr from by have h:=HQ.out.1;unfold AV ofL Ac.kind Ac.dep;exact h)
       have HHe:=Hd (show Aj.holds (Am (bx+1)) wr (ofL n l) (.slice ao j cp)from by
        have h:LIn Aj (Am (bx+1)) wr (Ab (ofL n l)) (.slice ao j cp):=by rw[Bw];exact HQ.out.2.1.done (by rw[HLe.out];omega) (by decide)
        exact h.args ⟨BL,by show(0:Int)≤(n:Int);omega,by show(n:Int)<256;have:=HL3.out.2.2;omega⟩)
       have HBz:=Hd HXe.out.rz
       go_wp2_with (first
        |(refine wpList_store_rowTo rfl 34 (.tmp 4) (.tmp 59) rfl rfl b #[.int .u8 (n:Int),.string ⟨#[]⟩,.int .u8 0,.int .i64 0,.string ⟨#[]⟩,.string ⟨#[]⟩,.slice ao j cp] rfl (by kernel_rfl) 34 _ HBz.out (by kernel_rfl) rfl (by kernel_rfl) ?_)
        |fail)
       obtain⟨q1,q2,q3,q4⟩:=XR.done (x:=(ofL n l)) (r:=(.slice ao j cp)) (n0:=(bx+1)) HXe.out (by have:=HXe.out.lo;have:=HXe.out.nx;omega) (by have:=HXe.out.nx;omega) HHe.out
       exact bodyPost_ret (results_cell_row rfl _ _ b 34 _ (0,0) _ rfl q1 Tryz.underlying34 rfl (by kernel_rfl)) rfl ⟨(ofL n l),(.slice ao j cp),a3,e3,rfl,q2,q3,Ek k HNn.out HR3.out HRs.out,q4⟩
     ·obtain rfl:j=n2:=by omega
      have HRs:=Hd HQ.out.2.2.done
      have HXe:=Hd (show XR w b bx (AV (ofL n l) (.slice ao j cp)) g s a3 e3 wr from by have h:=HQ.out.1;unfold AV ofL Ac.kind Ac.dep;exact h)
      have HHe:=Hd (show Aj.holds (Am (bx+1)) wr (ofL n l) (.slice ao j cp)from by
       have h:LIn Aj (Am (bx+1)) wr (Ab (ofL n l)) (.slice ao j cp):=by rw[Bw];exact HQ.out.2.1.done (by rw[HLe.out];omega) (by decide)
       exact h.args ⟨BL,by show(0:Int)≤(n:Int);omega,by show(n:Int)<256;have:=HL3.out.2.2;omega⟩)
      have HBz:=Hd HXe.out.rz
      go_wp2_with (first
       |(refine wpList_store_rowTo rfl 34 (.tmp 4) (.tmp 59) rfl rfl b #[.int .u8 (n:Int),.string ⟨#[]⟩,.int .u8 0,.int .i64 0,.string ⟨#[]⟩,.string ⟨#[]⟩,.slice ao j cp] rfl (by kernel_rfl) 34 _ HBz.out (by kernel_rfl) rfl (by kernel_rfl) ?_)
       |fail)
      obtain⟨q1,q2,q3,q4⟩:=XR.done (x:=(ofL n l)) (r:=(.slice ao j cp)) (n0:=(bx+1)) HXe.out (by have:=HXe.out.lo;have:=HXe.out.nx;omega) (by have:=HXe.out.nx;omega) HHe.out
      exact bodyPost_ret (results_cell_row rfl _ _ b 34 _ (0,0) _ rfl q1 Tryz.underlying34 rfl (by kernel_rfl)) rfl ⟨(ofL n l),(.slice ao j cp),a3,e3,rfl,q2,q3,Ek k HNn.out HR3.out HRs.out,q4⟩
 ·obtain rfl:n=0:=HL3.out.2.1 he1
  have HE1:=Hd he1
  have heb:(e1==0)=false:=by simpa using he1
  clear he1
  have HBz:=Hd (show XR w b bx (AV (ofL 0 []) nV) g s a1 e1 w4 from HX4.out).rz
  go_wp2_with (first
   |(refine wpList_store_rowTo rfl 34 (.tmp 4) (.tmp 22) rfl rfl b #[.int .u8 0,.string ⟨#[]⟩,.int .u8 0,.int .i64 0,.string ⟨#[]⟩,.string ⟨#[]⟩,.slice none 0 0] rfl (by kernel_rfl) 34 _ HBz.out (by kernel_rfl) rfl (by kernel_rfl) ?_)
   |fail)
  obtain⟨q1,q2,q3,q4⟩:=XR.done (x:=(ofL 0 [])) (r:=nV) (n0:=(b+1)) (show XR w b bx (AV (ofL 0 []) nV) g s a1 e1 w4 from HX4.out) (by have:=HX4.out.lo;omega) (by omega) (C1 _ _ _ (by rfl) ⟨BL,by show(0:Int)≤0;decide,by show(0:Int)<256;decide⟩)
  exact bodyPost_ret (results_cell_row rfl _ _ b 34 _ (0,0) _ rfl q1 Tryz.underlying34 rfl (by kernel_rfl)) rfl ⟨(ofL 0 []),nV,rfl,q2,a1,e1,q3,Ht m _ HR3.out HE1.out,q4⟩
theorem Fu:∀m:Nat,m≤8→Lc m
 |0,_=>EC 0 (by omega) fun k hk=>by omega
 |m+1,h=>EC (m+1) h fun k hk=>by
  obtain rfl:m=k:=by omega
  exact Fu m (by omega)
theorem Br {g:Nat} {s:ByteArray} {at_:Nat} {e:Int} {w:World} (h:DR g s at_ e w):Calls Tryz.prog 108 #[.pointer (some ⟨g,0,none⟩)] w
 fun ret w'=>∃(x:Ac) (v:Value) (at2:Nat) (e2:Int),ret= .returned v∧LIn Aj (Am w.heap.size) w' (Ab x) v∧DR g s at2 e2 w'∧Res A8 s at_ e x at2 e2∧Ae (·=g) w w':=by
 have HN:=Hd (DE h 0 32 (by decide))
 have HL0:=Hd (DLs.start h Aj 34)
 obtain⟨iD,hiD,hz0,hz1,hz2⟩:=Gt
 clear h
 go_enter Tryz.func108,Tryz.ntmps108
 go_wp2_with (first
  |(go_at_call 57;(with_reducible refine HN.out.mono ?_);rintro r w1 ⟨n,at1,e1,rfl,hn,hs1,hr1,ht1,hl1,hz1'⟩;have HL1:=Hd (HL0.out.call hs1 ht1);have HR1:=Hd (DGo.start (p:=B7 8) hr1);clear hs1 hr1 ht1 hl1 hz1')
  |fail)
 go_loopw [3,5] (fun v i wr=>∃(k:Nat) (l:List Ac) (ao:Option Addr) (cp a:Nat) (e1:Int),k≤n∧i= .int .i64 k∧l.length=k∧v= .slice ao k cp∧Hid (DLs Aj 34 w g s a e1 l (.slice ao k cp) wr∧DGo (B7 8) 0 32 s at_ e n k l a e1)) (fun _ i _=>n-(intOf i).toNat)
 case atStart=>exact⟨0,[],none,0,at1,e1,by omega,rfl,rfl,rfl,HL1.out,HR1.out⟩
 case round=>
  obtain⟨k,l,ao,cp,a,e2,hk,rfl,hl,rfl,HQ⟩:=hrel
  have HLe:=Hd hl
  have c2:wr.cell? ⟨g,2,none⟩=some (.int .i64 e2):=HQ.out.1.ds.rb.cell 2
  have cl:=HQ.out.1.ds.rb.lt
  clear hl
  by_cases hlt:k<n
  ·have hki:(k:Int)<(n:Int):=by omega
   by_cases he:e2=0
   ·subst he
    have HM:=Hd (by
     have h:=Fu 8 (by omega) g s a 0 wr HQ.out.1.ds
     rw[show(8-((8:Nat):Int))=0 from rfl]at h
     exact h)
    have HLt:=Hd hlt
    obtain⟨xs,hown,hone⟩:=HQ.out.1.ac.own
    rw[HLe.out]at hown
    have HO4:=Hd hown
    have HN4:=Hd hone
    clear hown hone
    go_wp2_with (first
     |(go_at_call 154;(with_reducible refine HM.out.mono ?_);rintro r w2 ⟨x,vx,at2,e2,rfl,hd,hs2,hr2,ht2⟩;obtain⟨ra,rc,rfl⟩:=(AZ.is hd).form;have HL2:=Hd (HQ.out.1.call hs2 ht2);have HG2:=Hd (HQ.out.2.step HLt.out hr2);have HDs:=Hd hd;have HT2:=Hd ht2;clear hs2 hr2 ht2 hd)
     |(at_builtin;(refine AC _ rfl (.tmp 20) (.tmp 23) _ _ rfl 34 iD _ 7 96 Tryz.underlying26 hiD hz0 hz1 hz2 rfl (by omega) (.slice ao k cp) k xs rfl ((HO4.out.touch HT2.out fun q hq hg=>by have:=(HQ.out.1.ownB q hq).1;have:=HQ.out.1.lt;omega).alloc _) HN4.out (.slice (some ⟨w2.heap.size,0,none⟩) 1 1) 1 (AM x (.slice ra x.n rc)) rfl (C4 w2 x (.slice ra x.n rc) rfl) (by simp only[maxLen];omega) (by omega) ?_);rintro ao' cap' w7 hn1 hn2 hO7 hg7 hat7 hlt7;have HZ7:=Hd (And.intro hO7 (And.intro hg7 hat7));clear hn1 hn2 hO7 hg7 hat7 hlt7)
     |fail)
    have HS7:=Hd (show DLs Aj 34 w g s at2 e2 (l++ [x]) (.slice ao' (k+1) cap') w7 from by
     have hw:=HL2.out.tc.size
     refine(HL2.out.below (Ag w2 (.cells (AV x (.slice ra x.n rc)) 34))).push (K:=Aj) (r:=Value.slice ra x.n rc) (m0:=wr.heap.size) (xs:=xs) ?_ HQ.out.1.tc.size (fun q hq=>(HQ.out.1.ownB q hq).2) (LA HDs.out (Nat.le_refl _) (Ag _ _)) ?_ HZ7.out.2.1 HZ7.out.2.2
     ·rw[HLe.out]
      exact(HO4.out.touch HT2.out fun q hq hg=>by have:=(HQ.out.1.ownB q hq).1;have:=HQ.out.1.lt;omega).alloc _
     ·rw[HLe.out]
      exact HZ7.out.1)
    go_roundw
    case rel=>exact⟨k+1,l++ [x],ao',cap',at2,e2,HLt.out,by go_num,by rw[List.length_append,HLe.out];rfl,rfl,HS7.out,HG2.out⟩
    case measure=>have:=HLt.out;simp[intOf];omega
   ·have heb:(e2==0)=false:=by simpa using he
    have HE:=Hd he
    have hlk:=HQ.out.1.ac.done (by rw[HLe.out];omega) (by decide)
    have HLk:=Hd hlk
    have hk32:k≤32:=by omega
    clear hlk
    go_wp2_with fail
    go_ret
    exact⟨ofL 0 l,_,a,e2,rfl,by rw[Bw];exact HLk.out,HQ.out.1.ds,Ds (HQ.out.2.bad HE.out),HQ.out.1.tc⟩
  ·obtain rfl:k=n:=by omega
   have HLk:=Hd (HQ.out.1.ac.done (by rw[HLe.out];omega) (by decide))
   go_wp2_with fail
   go_ret
   exact⟨ofL 0 l,_,a,e2,rfl,by rw[Bw];exact HLk.out,HQ.out.1.ds,Ds HQ.out.2.done,HQ.out.1.tc⟩
theorem LIn.more {α:Type} {K:Kd α} {n m:Nat} (hm:n≤m) {w:World} {l:List α} {v:Value} (h:LIn K (Am m) w l v):LIn K (Am n) w l v:=h.keep (Nat.le_refl _) fun _ ⟨k1,k2⟩ _=>⟨rfl,by omega,k2⟩
theorem G2 {g gr b1:Nat} {s:ByteArray} {left:Int} {at_:Nat} {e:Int} {w:World} (h:RSt g gr s left at_ e w) (h1:Blk w b1 83 #[.pointer (some ⟨g,0,none⟩)]):
 Calls Tryz.prog 169 #[.pointer (some ⟨b1,0,none⟩)] w (Cg g gr s left at_ e (B7 8) (VR w.heap.size) w):=by
 obtain⟨b,hbe⟩:∃b,b=w.heap.size:=⟨_,rfl⟩
 obtain⟨w1,hw1⟩:∃w1,w1=w.alloc (.cells BQ 34):=⟨_,rfl⟩
 have hb1:Below w.heap.size w w1:=by rw[hw1];exact Ag _ _
 have hx1:Blk w1 b 34 BQ:=by rw[hw1,hbe];exact Blk.new _ _ _
 have hsz:w1.heap.size=b+1:=by rw[hw1,hbe];simp
 have c1:w1.cell? ⟨b1,0,none⟩=some (.pointer (some ⟨g,0,none⟩)):=(h1.below hb1 h1.lt).cell 0
 have HN:=Hd (show Calls Tryz.prog 170 #[.pointer (some ⟨g,0,none⟩),.int .i64 0] w1 (Cg g gr s left at_ e (B7 8) (VR w1.heap.size) w1)from GK 8 (Nat.le_refl _) g gr s left at_ e w1 (h.below hb1))
 have HS:=Hd (show RSt g gr s left at_ e w1∧Blk w1 b 34 BQ∧Ae (RF g gr) w w1∧w1.heap.size=b+1∧w.heap.size=b from⟨h.below hb1,hx1,Ae.of_below hb1 _,hsz,hbe.symm⟩)
 clear h h1 hb1 hx1 hsz
 go_enter Tryz.func169,Tryz.ntmps169
 go_upto_region 1 with fail
 rw[←hw1,←hbe]
 have HG:=Hd hbe
 clear hw1 hbe
 go_wp2_with (first
  |(go_at_call 170;(with_reducible refine HN.out.mono ?_);rintro rr w2 ⟨x,vx,a2,e2,rfl,⟨r,rfl,hx2⟩,hs2,hr2,ht2⟩;obtain⟨ra,rc,rfl⟩:=(AZ.is hx2).form;have HX2:=Hd hx2;have HS2:=Hd (show RSt g gr s left a2 e2 w2∧Blk w2 b 34 BQ∧Ae (RF g gr) w w2 from⟨hs2,HS.out.1.far ht2 HS.out.2.1 (by decide) (by decide),HS.out.2.2.1.trans ht2 fun _ _ h=>h⟩);have HR2:=Hd hr2;have z0:=HS2.out.2.1.cell 0;have z1:=HS2.out.2.1.cell 1;have z2:=HS2.out.2.1.cell 2;have z3:=HS2.out.2.1.cell 3;have z4:=HS2.out.2.1.cell 4;have z5:=HS2.out.2.1.cell 5;have z6:=HS2.out.2.1.cell 6;have f0:=HS2.out.2.1.frozen 0;have f1:=HS2.out.2.1.frozen 1;have f2:=HS2.out.2.1.frozen 2;have f3:=HS2.out.2.1.frozen 3;have f4:=HS2.out.2.1.frozen 4;have f5:=HS2.out.2.1.frozen 5;have f6:=HS2.out.2.1.frozen 6;have zl:=HS2.out.2.1.lt;clear hx2 hs2 hr2 ht2)
  |fail)
 have hbg:b≠g∧b≠gr:=⟨HS2.out.2.1.ne_ HS2.out.1.rb (by decide),HS2.out.2.1.ne_ HS2.out.1.wr (by decide)⟩
 exact bodyPost_ret (results_cell_row rfl _ _ b 34 _ (0,0) _ rfl (EM HS2.out.2.1 x (.slice ra x.n rc)) Tryz.underlying34 rfl (by kernel_rfl)) rfl ⟨x,_,a2,e2,rfl,⟨_,rfl,by rw[HS.out.2.2.2.2];exact D4 (by rw[HS.out.2.2.2.1];omega) (Fc HX2.out (by rw[HS.out.2.2.2.1];omega))⟩,HS2.out.1.fin hbg.1 hbg.2,HR2.out,EY HS2.out.2.2 (by rw[HS.out.2.2.2.2];exact Nat.le_refl _)⟩
abbrev VRs (n0:Nat):Ac→Value→World→Prop:=fun x v w'=>LIn Aj (Am n0) w' (Ab x) v∧Fd x.kind x.dep
theorem Dx {g gr:Nat} {s:ByteArray} {left:Int} {at_:Nat} {e:Int} {w:World} (h:RSt g gr s left at_ e w):Calls Tryz.prog 136 #[.pointer (some ⟨g,0,none⟩)] w (Cg g gr s left at_ e A8 (VRs w.heap.size) w):=by
 obtain⟨b1,hbe⟩:∃b,b=w.heap.size:=⟨_,rfl⟩
 obtain⟨w1,hw1⟩:∃w1,w1=w.alloc (.cells #[.pointer (some ⟨g,0,none⟩)] 83):=⟨_,rfl⟩
 have hb1:Below w.heap.size w w1:=by rw[hw1];exact Ag _ _
 have hx1:Blk w1 b1 83 #[.pointer (some ⟨g,0,none⟩)]:=by rw[hw1,hbe];exact Blk.new _ _ _
 have hs1:=h.below hb1
 have HN:=Hd (MI (b1:=b1) 0 32 (by decide) (by decide) (B7 8) (fun a e W hW hT=>G2 hW (hs1.far hT hx1 (by decide) (by decide))) hs1)
 have HS:=Hd (show Ae (RF g gr) w w1∧w.heap.size≤w1.heap.size from⟨Ae.of_below hb1 _,hb1.size⟩)
 have c1:w1.cell? ⟨b1,0,none⟩=some (.pointer (some ⟨g,0,none⟩)):=hx1.cell 0
 clear h hs1 hb1 hx1
 go_enter Tryz.func136,Tryz.ntmps136
 go_upto_region 1 with fail
 rw[←hw1,←hbe]
 have HG:=Hd hbe
 clear hw1 hbe
 go_wp2_with (first
  |(go_at_call 168;(with_reducible refine HN.out.mono ?_);rintro r w2 ⟨l,v,a2,e2,rfl,hl,h3,h4,h5⟩)
  |fail)
 go_ret
 exact⟨ofL 0 l,v,a2,e2,rfl,⟨by rw[Bw];exact hl.more (by have:=HG.out;have:=HS.out.2;omega),BL,by show(0:Int)≤0;decide,by show(0:Int)<256;decide⟩,h3,Al h4 (A5 _),HS.out.1.trans h5 fun _ _ h=>h⟩
open Go.ChangeShapes Go.WideShapes Go.ChangeAt Go.RowKit
theorem Ji (W0:World) (g gw:Nat) (l:List Ac) (vl:Value) (hl:LIn Aj Ai W0 l vl)
 (one:∀x∈l,∀(r:Aj.R) (v:Value) (st:WT) (w:World),Aj.holds Ai W0 x r→AO W0 g gw v st w→Calls Tryz.prog 67 #[.pointer (some ⟨g,0,none⟩),x.val r] w (Bn W0 g gw v st (Bk x) w))
 (v:Value) (st:WT) (w:World) (h:AO W0 g gw v st w):
 Calls Tryz.prog 66 #[.pointer (some ⟨g,0,none⟩),vl,.func (.func 67) #[.pointer (some ⟨g,0,none⟩)] #[]] w (Bn W0 g gw v st (AQ Bk l) w):=by
 obtain⟨a,c,rfl⟩:=hl.form
 have hn:=hl.bound
 have HL:=Hd hl
 have HO:=Hd one
 have HN:=Hd (Bu W0 g gw v st l.length w (by omega) h)
 clear hl one h
 go_enter Tryz.func66,Tryz.ntmps66
 go_wp2_with fail
 refine HN.out.mono ?_
 rintro e w1 ⟨rfl,v1,st1,hs1,hr1,hc1⟩
 have HS1:=Hd (show AO W0 g gw v1 st1 w1∧AS st (Ao l.length++(l.take 0).flatMap Bk) st1∧AB g gw w v w1 v1 from⟨hs1,by rw[List.take_zero,List.flatMap_nil,List.append_nil];exact hr1,hc1⟩)
 clear hs1 hr1 hc1
 go_wp2_with fail
 go_loopw [14] (fun i wr=>∃(k:Nat) (v1:Value) (st1:WT),k≤l.length∧i= .int .i64 k∧Hid (AO W0 g gw v1 st1 wr∧AS st (Ao l.length++(l.take k).flatMap Bk) st1∧AB g gw w v wr v1)) (fun i wr=>l.length-(intOf i).toNat)
 case atStart=>exact⟨0,v1,st1,by omega,rfl,HS1⟩
 case round=>
  obtain⟨k,v1,st1,hk,rfl,HQ⟩:=hrel
  by_cases hlt:k<l.length
  ·have hki:(k:Int)<(l.length:Int):=by omega
   obtain⟨b,o,r,ha,_,hcs0,hh⟩:=HL.out.at_ k hlt
   obtain⟨x,hx⟩:∃x,x=l[k]:=⟨_,rfl⟩
   have HX:=Hd (show l.take (k+1)=l.take k++ [x]from by rw[hx];exact List.take_succ_eq_append_getElem hlt)
   have hmem:x∈l:=by rw[hx];exact List.getElem_mem _
   rw[←hx]at hcs0 hh
   subst ha
   dsimp only[Aj]at hcs0 r
   obtain⟨ra,rc,rfl⟩:=(AZ.is hh).form
   have hcs:=hcs0.same (HQ.out.1.bl.block b hcs0.1) HQ.out.1.bl.size
   have e0:wr.cell? ⟨b,o+k*7,none⟩=some (.int .u8 x.kind):=hcs.2 0 (show 0<7 by omega)
   have e1:wr.cell? ⟨b,o+k*7+1,none⟩=some (.string x.dep.name):=hcs.2 1 (show 1<7 by omega)
   have e2:wr.cell? ⟨b,o+k*7+2,none⟩=some (.int .u8 x.dep.op):=hcs.2 2 (show 2<7 by omega)
   have e3:wr.cell? ⟨b,o+k*7+3,none⟩=some (.int .i64 x.dep.ep):=hcs.2 3 (show 3<7 by omega)
   have e4:wr.cell? ⟨b,o+k*7+4,none⟩=some (.string x.dep.ver):=hcs.2 4 (show 4<7 by omega)
   have e5:wr.cell? ⟨b,o+k*7+5,none⟩=some (.string x.dep.rel):=hcs.2 5 (show 5<7 by omega)
   have e6:wr.cell? ⟨b,o+k*7+6,none⟩=some (.slice ra x.n rc):=hcs.2 6 (show 6<7 by omega)
   have eb:b<wr.heap.size:=hcs.1
   have HM:=Hd (fun w' (hw:Below wr.heap.size wr w')=>HO.out x hmem _ v1 st1 w' hh (HQ.out.1.below hw))
   clear hcs hcs0 hh hx hmem
   go_wp2_with (first
    |(go_at_call 67;(with_reducible refine(HM.out _ (Ag _ _)).mono ?_);rintro e w2 ⟨rfl,v2,st2,hs2,hr2,hc2⟩;have HS2:=Hd (show AO W0 g gw v2 st2 w2∧AS st (Ao l.length++(l.take (k+1)).flatMap Bk) st2∧AB g gw w v w2 v2 from⟨hs2,by(rw[HX.out,List.flatMap_append,List.flatMap_cons,List.flatMap_nil,List.append_nil,←List.append_assoc];exact HQ.out.2.1.trans hr2),HQ.out.2.2.trans ((AB.of_below (Ag _ _)).trans hc2)⟩);clear hs2 hr2 hc2)
    |fail)
   go_roundw
   case rel=>exact⟨k+1,v2,st2,by omega,by go_num,HS2⟩
   case measure=>simp[intOf];omega
  ·obtain rfl:k=l.length:=by omega
   go_wp2_with fail
   go_end0
   refine⟨rfl,v1,st1,HQ.out.1,?_,HQ.out.2.2⟩
   have:=HQ.out.2.1
   rw[List.take_length]at this
   exact this
theorem Nt (W0:World) (g gw:Nat) (l:List Ax) (vl:Value) (hl:LIn AW Ai W0 l vl)
 (one:∀x∈l,∀(r:AW.R) (v:Value) (st:WT) (w:World),AW.holds Ai W0 x r→AO W0 g gw v st w→Calls Tryz.prog 65 #[.pointer (some ⟨g,0,none⟩),x.val] w (Bn W0 g gw v st (AU x) w))
 (v:Value) (st:WT) (w:World) (h:AO W0 g gw v st w):
 Calls Tryz.prog 64 #[.pointer (some ⟨g,0,none⟩),vl,.func (.func 65) #[.pointer (some ⟨g,0,none⟩)] #[]] w (Bn W0 g gw v st (AQ AU l) w):=by
 obtain⟨a,c,rfl⟩:=hl.form
 have hn:=hl.bound
 have HL:=Hd hl
 have HO:=Hd one
 have HN:=Hd (Bu W0 g gw v st l.length w (by omega) h)
 clear hl one h
 go_enter Tryz.func64,Tryz.ntmps64
 go_wp2_with fail
 refine HN.out.mono ?_
 rintro e w1 ⟨rfl,v1,st1,hs1,hr1,hc1⟩
 have HS1:=Hd (show AO W0 g gw v1 st1 w1∧AS st (Ao l.length++(l.take 0).flatMap AU) st1∧AB g gw w v w1 v1 from⟨hs1,by rw[List.take_zero,List.flatMap_nil,List.append_nil];exact hr1,hc1⟩)
 clear hs1 hr1 hc1
 go_wp2_with fail
 go_loopw [14] (fun i wr=>∃(k:Nat) (v1:Value) (st1:WT),k≤l.length∧i= .int .i64 k∧Hid (AO W0 g gw v1 st1 wr∧AS st (Ao l.length++(l.take k).flatMap AU) st1∧AB g gw w v wr v1)) (fun i wr=>l.length-(intOf i).toNat)
 case atStart=>exact⟨0,v1,st1,by omega,rfl,HS1⟩
 case round=>
  obtain⟨k,v1,st1,hk,rfl,HQ⟩:=hrel
  by_cases hlt:k<l.length
  ·have hki:(k:Int)<(l.length:Int):=by omega
   obtain⟨b,o,r,ha,_,hcs0,hh⟩:=HL.out.at_ k hlt
   obtain⟨x,hx⟩:∃x,x=l[k]:=⟨_,rfl⟩
   have HX:=Hd (show l.take (k+1)=l.take k++ [x]from by rw[hx];exact List.take_succ_eq_append_getElem hlt)
   have hmem:x∈l:=by rw[hx];exact List.getElem_mem _
   rw[←hx]at hcs0 hh
   subst ha
   dsimp only[AW]at hcs0 r
   have hcs:=hcs0.same (HQ.out.1.bl.block b hcs0.1) HQ.out.1.bl.size
   have e0:wr.cell? ⟨b,o+k*5,none⟩=some (.string x.name):=hcs.2 0 (show 0<5 by omega)
   have e1:wr.cell? ⟨b,o+k*5+1,none⟩=some (.int .u8 x.op):=hcs.2 1 (show 1<5 by omega)
   have e2:wr.cell? ⟨b,o+k*5+2,none⟩=some (.int .i64 x.ep):=hcs.2 2 (show 2<5 by omega)
   have e3:wr.cell? ⟨b,o+k*5+3,none⟩=some (.string x.ver):=hcs.2 3 (show 3<5 by omega)
   have e4:wr.cell? ⟨b,o+k*5+4,none⟩=some (.string x.rel):=hcs.2 4 (show 4<5 by omega)
   have eb:b<wr.heap.size:=hcs.1
   have HM:=Hd (fun w' (hw:Below wr.heap.size wr w')=>HO.out x hmem _ v1 st1 w' hh (HQ.out.1.below hw))
   clear hcs hcs0 hh hx hmem
   go_wp2_with (first
    |(go_at_call 65;(with_reducible refine(HM.out _ (Ag _ _)).mono ?_);rintro e w2 ⟨rfl,v2,st2,hs2,hr2,hc2⟩;have HS2:=Hd (show AO W0 g gw v2 st2 w2∧AS st (Ao l.length++(l.take (k+1)).flatMap AU) st2∧AB g gw w v w2 v2 from⟨hs2,by(rw[HX.out,List.flatMap_append,List.flatMap_cons,List.flatMap_nil,List.append_nil,←List.append_assoc];exact HQ.out.2.1.trans hr2),HQ.out.2.2.trans ((AB.of_below (Ag _ _)).trans hc2)⟩);clear hs2 hr2 hc2)
    |fail)
   go_roundw
   case rel=>exact⟨k+1,v2,st2,by omega,by go_num,HS2⟩
   case measure=>simp[intOf];omega
  ·obtain rfl:k=l.length:=by omega
   go_wp2_with fail
   go_end0
   refine⟨rfl,v1,st1,HQ.out.1,?_,HQ.out.2.2⟩
   have:=HQ.out.2.1
   rw[List.take_length]at this
   exact this
theorem Nq (W0:World) (g gw:Nat) (l:List ByteArray) (vl:Value) (hl:LIn A2 Ai W0 l vl)
 (one:∀x∈l,∀(r:A2.R) (v:Value) (st:WT) (w:World),A2.holds Ai W0 x r→AO W0 g gw v st w→Calls Tryz.prog 62 #[.pointer (some ⟨g,0,none⟩),.string x] w (Bn W0 g gw v st (AG x) w))
 (v:Value) (st:WT) (w:World) (h:AO W0 g gw v st w):
 Calls Tryz.prog 68 #[.pointer (some ⟨g,0,none⟩),vl,.func (.func 62) #[.pointer (some ⟨g,0,none⟩)] #[]] w (Bn W0 g gw v st (AQ AG l) w):=by
 obtain⟨a,c,rfl⟩:=hl.form
 have hn:=hl.bound
 have HL:=Hd hl
 have HO:=Hd one
 have HN:=Hd (Bu W0 g gw v st l.length w (by omega) h)
 clear hl one h
 go_enter Tryz.func68,Tryz.ntmps68
 go_wp2_with fail
 refine HN.out.mono ?_
 rintro e w1 ⟨rfl,v1,st1,hs1,hr1,hc1⟩
 have HS1:=Hd (show AO W0 g gw v1 st1 w1∧AS st (Ao l.length++(l.take 0).flatMap AG) st1∧AB g gw w v w1 v1 from⟨hs1,by rw[List.take_zero,List.flatMap_nil,List.append_nil];exact hr1,hc1⟩)
 clear hs1 hr1 hc1
 go_wp2_with fail
 go_loopw [14] (fun i wr=>∃(k:Nat) (v1:Value) (st1:WT),k≤l.length∧i= .int .i64 k∧Hid (AO W0 g gw v1 st1 wr∧AS st (Ao l.length++(l.take k).flatMap AG) st1∧AB g gw w v wr v1)) (fun i wr=>l.length-(intOf i).toNat)
 case atStart=>exact⟨0,v1,st1,by omega,rfl,HS1⟩
 case round=>
  obtain⟨k,v1,st1,hk,rfl,HQ⟩:=hrel
  by_cases hlt:k<l.length
  ·have hki:(k:Int)<(l.length:Int):=by omega
   obtain⟨b,o,r,ha,_,hcs0,hh⟩:=HL.out.at_ k hlt
   obtain⟨x,hx⟩:∃x,x=l[k]:=⟨_,rfl⟩
   have HX:=Hd (show l.take (k+1)=l.take k++ [x]from by rw[hx];exact List.take_succ_eq_append_getElem hlt)
   have hmem:x∈l:=by rw[hx];exact List.getElem_mem _
   rw[←hx]at hcs0 hh
   subst ha
   dsimp only[A2]at hcs0 r
   rw[Nat.mul_one]at hcs0
   have hcs:=hcs0.same (HQ.out.1.bl.block b hcs0.1) HQ.out.1.bl.size
   have e0:wr.cell? ⟨b,o+k,none⟩=some (.string x):=hcs.2 0 (show 0<1 by omega)
   have eb:b<wr.heap.size:=hcs.1
   have HM:=Hd (fun w' (hw:Below wr.heap.size wr w')=>HO.out x hmem _ v1 st1 w' hh (HQ.out.1.below hw))
   clear hcs hcs0 hh hx hmem
   go_wp2_with (first
    |(go_at_call 62;(with_reducible refine(HM.out _ (Below.refl _ _)).mono ?_);rintro e w2 ⟨rfl,v2,st2,hs2,hr2,hc2⟩;have HS2:=Hd (show AO W0 g gw v2 st2 w2∧AS st (Ao l.length++(l.take (k+1)).flatMap AG) st2∧AB g gw w v w2 v2 from⟨hs2,by(rw[HX.out,List.flatMap_append,List.flatMap_cons,List.flatMap_nil,List.append_nil,←List.append_assoc];exact HQ.out.2.1.trans hr2),HQ.out.2.2.trans ((AB.of_below (Below.refl _ _)).trans hc2)⟩);clear hs2 hr2 hc2)
    |fail)
   go_roundw
   case rel=>exact⟨k+1,v2,st2,by omega,by go_num,HS2⟩
   case measure=>simp[intOf];omega
  ·obtain rfl:k=l.length:=by omega
   go_wp2_with fail
   go_end0
   refine⟨rfl,v1,st1,HQ.out.1,?_,HQ.out.2.2⟩
   have:=HQ.out.2.1
   rw[List.take_length]at this
   exact this
theorem Nr (W0:World) (g gw:Nat) (l:List Aq) (vl:Value) (hl:LIn AN Ai W0 l vl)
 (one:∀x∈l,∀(r:AN.R) (v:Value) (st:WT) (w:World),AN.holds Ai W0 x r→AO W0 g gw v st w→Calls Tryz.prog 31 #[.pointer (some ⟨g,0,none⟩),x.val r] w (Bn W0 g gw v st (A4 x) w))
 (v:Value) (st:WT) (w:World) (h:AO W0 g gw v st w):
 Calls Tryz.prog 30 #[.pointer (some ⟨g,0,none⟩),vl,.func (.func 31) #[.pointer (some ⟨g,0,none⟩)] #[]] w (Bn W0 g gw v st (AQ A4 l) w):=by
 obtain⟨a,c,rfl⟩:=hl.form
 have hn:=hl.bound
 have HL:=Hd hl
 have HO:=Hd one
 have HN:=Hd (Bu W0 g gw v st l.length w (by omega) h)
 clear hl one h
 go_enter Tryz.func30,Tryz.ntmps30
 go_wp2_with fail
 refine HN.out.mono ?_
 rintro e w1 ⟨rfl,v1,st1,hs1,hr1,hc1⟩
 have HS1:=Hd (show AO W0 g gw v1 st1 w1∧AS st (Ao l.length++(l.take 0).flatMap A4) st1∧AB g gw w v w1 v1 from⟨hs1,by rw[List.take_zero,List.flatMap_nil,List.append_nil];exact hr1,hc1⟩)
 clear hs1 hr1 hc1
 go_wp2_with fail
 go_loopw [14] (fun i wr=>∃(k:Nat) (v1:Value) (st1:WT),k≤l.length∧i= .int .i64 k∧Hid (AO W0 g gw v1 st1 wr∧AS st (Ao l.length++(l.take k).flatMap A4) st1∧AB g gw w v wr v1)) (fun i wr=>l.length-(intOf i).toNat)
 case atStart=>exact⟨0,v1,st1,by omega,rfl,HS1⟩
 case round=>
  obtain⟨k,v1,st1,hk,rfl,HQ⟩:=hrel
  by_cases hlt:k<l.length
  ·have hki:(k:Int)<(l.length:Int):=by omega
   obtain⟨b,o,r,ha,_,hcs0,hh⟩:=HL.out.at_ k hlt
   obtain⟨x,hx⟩:∃x,x=l[k]:=⟨_,rfl⟩
   have HX:=Hd (show l.take (k+1)=l.take k++ [x]from by rw[hx];exact List.take_succ_eq_append_getElem hlt)
   have hmem:x∈l:=by rw[hx];exact List.getElem_mem _
   rw[←hx]at hcs0 hh
   subst ha
   dsimp only[AN]at hcs0 r
   rcases r with ⟨r1,r2,r3,r4,r5,r6,r7,r8,r9⟩
   have hh':Ah Ai W0 x ⟨r1,r2,r3,r4,r5,r6,r7,r8,r9⟩:=hh
   obtain⟨a1,q1,(rfl:r1=_)⟩:=hh'.prov.form
   obtain⟨a2,q2,(rfl:r2=_)⟩:=hh'.req.form
   obtain⟨a3,q3,(rfl:r3=_)⟩:=hh'.con.form
   obtain⟨a4,q4,(rfl:r4=_)⟩:=hh'.obs.form
   obtain⟨a5,q5,(rfl:r5=_)⟩:=hh'.reco.form
   obtain⟨a6,q6,(rfl:r6=_)⟩:=hh'.sup.form
   obtain⟨a7,q7,(rfl:r7=_)⟩:=hh'.sug.form
   obtain⟨a8,q8,(rfl:r8=_)⟩:=hh'.enh.form
   obtain⟨a9,q9,(rfl:r9=_)⟩:=hh'.files.form
   clear hh'
   have hcs:=hcs0.same (HQ.out.1.bl.block b hcs0.1) HQ.out.1.bl.size
   have e0:wr.cell? ⟨b,o+k*15,none⟩=some (.string x.name):=hcs.2 0 (show 0<15 by omega)
   have e1:wr.cell? ⟨b,o+k*15+1,none⟩=some (.int .i64 x.ep):=hcs.2 1 (show 1<15 by omega)
   have e2:wr.cell? ⟨b,o+k*15+2,none⟩=some (.string x.ver):=hcs.2 2 (show 2<15 by omega)
   have e3:wr.cell? ⟨b,o+k*15+3,none⟩=some (.string x.rel):=hcs.2 3 (show 3<15 by omega)
   have e4:wr.cell? ⟨b,o+k*15+4,none⟩=some (.int .u8 x.arch):=hcs.2 4 (show 4<15 by omega)
   have e5:wr.cell? ⟨b,o+k*15+5,none⟩=some (.string x.vendor):=hcs.2 5 (show 5<15 by omega)
   have e6:wr.cell? ⟨b,o+k*15+6,none⟩=some (.slice a1 x.prov.length q1):=hcs.2 6 (show 6<15 by omega)
   have e7:wr.cell? ⟨b,o+k*15+7,none⟩=some (.slice a2 (Ab x.req).length q2):=hcs.2 7 (show 7<15 by omega)
   have e8:wr.cell? ⟨b,o+k*15+8,none⟩=some (.slice a3 (Ab x.con).length q3):=hcs.2 8 (show 8<15 by omega)
   have e9:wr.cell? ⟨b,o+k*15+9,none⟩=some (.slice a4 x.obs.length q4):=hcs.2 9 (show 9<15 by omega)
   have e10:wr.cell? ⟨b,o+k*15+10,none⟩=some (.slice a5 (Ab x.reco).length q5):=hcs.2 10 (show 10<15 by omega)
   have e11:wr.cell? ⟨b,o+k*15+11,none⟩=some (.slice a6 (Ab x.sup).length q6):=hcs.2 11 (show 11<15 by omega)
   have e12:wr.cell? ⟨b,o+k*15+12,none⟩=some (.slice a7 (Ab x.sug).length q7):=hcs.2 12 (show 12<15 by omega)
   have e13:wr.cell? ⟨b,o+k*15+13,none⟩=some (.slice a8 (Ab x.enh).length q8):=hcs.2 13 (show 13<15 by omega)
   have e14:wr.cell? ⟨b,o+k*15+14,none⟩=some (.slice a9 x.files.length q9):=hcs.2 14 (show 14<15 by omega)
   have eb:b<wr.heap.size:=hcs.1
   have HM:=Hd (fun w' (hw:Below wr.heap.size wr w')=>HO.out x hmem _ v1 st1 w' hh (HQ.out.1.below hw))
   clear hcs hcs0 hh hx hmem
   go_wp2_with (first
    |(go_at_call 31;(with_reducible refine(HM.out _ (Ag _ _)).mono ?_);rintro e w2 ⟨rfl,v2,st2,hs2,hr2,hc2⟩;have HS2:=Hd (show AO W0 g gw v2 st2 w2∧AS st (Ao l.length++(l.take (k+1)).flatMap A4) st2∧AB g gw w v w2 v2 from⟨hs2,by(rw[HX.out,List.flatMap_append,List.flatMap_cons,List.flatMap_nil,List.append_nil,←List.append_assoc];exact HQ.out.2.1.trans hr2),HQ.out.2.2.trans ((AB.of_below (Ag _ _)).trans hc2)⟩);clear hs2 hr2 hc2)
    |fail)
   go_roundw
   case rel=>exact⟨k+1,v2,st2,by omega,by go_num,HS2⟩
   case measure=>simp[intOf];omega
  ·obtain rfl:k=l.length:=by omega
   go_wp2_with fail
   go_end0
   refine⟨rfl,v1,st1,HQ.out.1,?_,HQ.out.2.2⟩
   have:=HQ.out.2.1
   rw[List.take_length]at this
   exact this
theorem Ns (W0:World) (g gw:Nat) (l:List AK) (vl:Value) (hl:LIn Az Ai W0 l vl)
 (one:∀x∈l,∀(r:Az.R) (v:Value) (st:WT) (w:World),Az.holds Ai W0 x r→AO W0 g gw v st w→Calls Tryz.prog 29 #[.pointer (some ⟨g,0,none⟩),.agg #[.int .i64 x.prio,r]] w (Bn W0 g gw v st (C9 x) w))
 (v:Value) (st:WT) (w:World) (h:AO W0 g gw v st w):
 Calls Tryz.prog 28 #[.pointer (some ⟨g,0,none⟩),vl,.func (.func 29) #[.pointer (some ⟨g,0,none⟩)] #[]] w (Bn W0 g gw v st (AQ C9 l) w):=by
 obtain⟨a,c,rfl⟩:=hl.form
 have hn:=hl.bound
 have HL:=Hd hl
 have HO:=Hd one
 have HN:=Hd (Bu W0 g gw v st l.length w (by omega) h)
 clear hl one h
 go_enter Tryz.func28,Tryz.ntmps28
 go_wp2_with fail
 refine HN.out.mono ?_
 rintro e w1 ⟨rfl,v1,st1,hs1,hr1,hc1⟩
 have HS1:=Hd (show AO W0 g gw v1 st1 w1∧AS st (Ao l.length++(l.take 0).flatMap C9) st1∧AB g gw w v w1 v1 from⟨hs1,by rw[List.take_zero,List.flatMap_nil,List.append_nil];exact hr1,hc1⟩)
 clear hs1 hr1 hc1
 go_wp2_with fail
 go_loopw [14] (fun i wr=>∃(k:Nat) (v1:Value) (st1:WT),k≤l.length∧i= .int .i64 k∧Hid (AO W0 g gw v1 st1 wr∧AS st (Ao l.length++(l.take k).flatMap C9) st1∧AB g gw w v wr v1)) (fun i wr=>l.length-(intOf i).toNat)
 case atStart=>exact⟨0,v1,st1,by omega,rfl,HS1⟩
 case round=>
  obtain⟨k,v1,st1,hk,rfl,HQ⟩:=hrel
  by_cases hlt:k<l.length
  ·have hki:(k:Int)<(l.length:Int):=by omega
   obtain⟨b,o,r,ha,_,hcs0,hh⟩:=HL.out.at_ k hlt
   obtain⟨x,hx⟩:∃x,x=l[k]:=⟨_,rfl⟩
   have HX:=Hd (show l.take (k+1)=l.take k++ [x]from by rw[hx];exact List.take_succ_eq_append_getElem hlt)
   have hmem:x∈l:=by rw[hx];exact List.getElem_mem _
   rw[←hx]at hcs0 hh
   subst ha
   dsimp only[Az]at hcs0 r
   obtain⟨ra,rc,rfl⟩:=hh.2.form
   have hcs:=hcs0.same (HQ.out.1.bl.block b hcs0.1) HQ.out.1.bl.size
   have e0:wr.cell? ⟨b,o+k*2,none⟩=some (.int .i64 x.prio):=hcs.2 0 (show 0<2 by omega)
   have e1:wr.cell? ⟨b,o+k*2+1,none⟩=some (.slice ra x.pkgs.length rc):=hcs.2 1 (show 1<2 by omega)
   have eb:b<wr.heap.size:=hcs.1
   have HM:=Hd (fun w' (hw:Below wr.heap.size wr w')=>HO.out x hmem _ v1 st1 w' hh (HQ.out.1.below hw))
   clear hcs hcs0 hh hx hmem
   go_wp2_with (first
    |(go_at_call 29;(with_reducible refine(HM.out _ (Ag _ _)).mono ?_);rintro e w2 ⟨rfl,v2,st2,hs2,hr2,hc2⟩;have HS2:=Hd (show AO W0 g gw v2 st2 w2∧AS st (Ao l.length++(l.take (k+1)).flatMap C9) st2∧AB g gw w v w2 v2 from⟨hs2,by(rw[HX.out,List.flatMap_append,List.flatMap_cons,List.flatMap_nil,List.append_nil,←List.append_assoc];exact HQ.out.2.1.trans hr2),HQ.out.2.2.trans ((AB.of_below (Ag _ _)).trans hc2)⟩);clear hs2 hr2 hc2)
    |fail)
   go_roundw
   case rel=>exact⟨k+1,v2,st2,by omega,by go_num,HS2⟩
   case measure=>simp[intOf];omega
  ·obtain rfl:k=l.length:=by omega
   go_wp2_with fail
   go_end0
   refine⟨rfl,v1,st1,HQ.out.1,?_,HQ.out.2.2⟩
   have:=HQ.out.2.1
   rw[List.take_length]at this
   exact this
def CE:Ac→Prop
 | .nil=>True
 | .node k d n f=>if k=1 then d.small else n≤32∧∀j,j<n→CE (f j)
theorem Gx {wh:Int}:(r:Ac)→(al:Bool)→B8 wh r al=true→r.count≤24→CE r
 | .nil,al,h,_=>by cases h
 | .node k d n f,al,h,hc=>by
   have ih:=fun j (hj:j<n)=>Gx (wh:=wh) (f j)
   replace h:(if k=1 then decide (n=0) && Ca d else(okE wh k n al && d.none) && CQ (fun j=>B8 wh (f j) (A0 k al)) n)=true:=h
   have hn:n<(Ac.node k d n f).count:=NI (.node k d n f)
   show if k=1 then d.small else n≤32∧∀j,j<n→CE (f j)
   by_cases hk:k=1
   ·rw[if_pos hk,Bool.and_eq_true]at h
    rw[if_pos hk]
    exact Dn h.2
   ·rw[if_neg hk,Bool.and_eq_true]at h
    rw[if_neg hk]
    exact⟨by omega,fun j hj=>ih j hj _ ((CP n).1 h.2 j hj) (by
     have:=Dp (r:= .node k d n f) (j:=j) hj
     simp only[Ac.args]at this
     omega)⟩
theorem MA {r:Ac} {wh:Int} (h:CS r wh=0):CE r:=by
 obtain⟨h1,_,h3⟩:=Jv h
 exact Gx r false h1 h3
theorem Nd (r:Ac):CE r→(if r.kind=1 then r.dep.small else r.n≤32∧∀j,j<r.n→CE (r.args j)):=by
 cases r with
 |nil=>
  intro _
  show if (0:Int)=1 then _ else(0:Nat)≤32∧∀j,j<0→_
  rw[if_neg (by decide)]
  exact⟨by omega,fun j hj=>absurd hj (Nat.not_lt_zero j)⟩
 |node k d n f=>exact id
theorem H5 (r:Ac):AQ Bk (Ab r)=At r:=by
 unfold AQ At
 rw[BY]
 exact congrArg _ (Ka _ _ _)
theorem KX (W0:World) (g gw:Nat) (r:Ac):∀(s v:Value) (st:WT) (w:World),AZ Ai W0 r s→CE r→AO W0 g gw v st w→
 Calls Tryz.prog 67 #[.pointer (some ⟨g,0,none⟩),r.val s] w (Bn W0 g gw v st (Bk r) w):=by
 have step:∀(r:Ac) (s v:Value) (st:WT) (w:World),AZ Ai W0 r s→CE r→AO W0 g gw v st w→
  (∀j,j<r.n→∀(s v:Value) (st:WT) (w:World),AZ Ai W0 (r.args j) s→CE (r.args j)→AO W0 g gw v st w→Calls Tryz.prog 67 #[.pointer (some ⟨g,0,none⟩),(r.args j).val s] w (Bn W0 g gw v st (Bk (r.args j)) w))→
  Calls Tryz.prog 67 #[.pointer (some ⟨g,0,none⟩),r.val s] w (Bn W0 g gw v st (Bk r) w):=by
  intro r s v st w hs hsm h ih
  have hsm2:=Nd r hsm
  obtain⟨hf,hk0,hk1⟩:=hs.fit
  obtain⟨a,c,rfl⟩:=hs.is.form
  obtain⟨kn,hkn⟩:∃n:Nat,r.kind=n:=⟨r.kind.toNat,(F5 hk0).symm⟩
  obtain⟨Bs,hBs⟩:∃Bs,Bs=Bk r:=⟨_,rfl⟩
  rw[←hBs]
  have HBs:=Hd (hBs.trans (EP r))
  have hb1:=Ag w (AT r (.slice a r.n c))
  obtain⟨b,hbe⟩:∃b,b=w.heap.size:=⟨_,rfl⟩
  obtain⟨w1,hw1⟩:∃w1,w1=w.alloc (AT r (.slice a r.n c)):=⟨_,rfl⟩
  have hx1:A6 w1 b r (.slice a r.n c):=by rw[hw1,hbe];exact A6.new _ _ _
  rw[←hw1]at hb1
  have HS1:=Hd (show AO W0 g gw v st w1∧A6 w1 b r (.slice a r.n c)from⟨h.below hb1,hx1⟩)
  have HC1:=Hd (AB.of_below (g:=g) (gw:=gw) (v:=v) hb1)
  have c0:w1.cell? ⟨b,0,none⟩=some (.int .u8 r.kind):=hx1.cell 0
  have HN:=Hd (Bu W0 g gw v st kn w1 (by omega) HS1.out.1)
  have HF:=Hd (show∀v' w',AB g gw w1 v w' v'→A6 w' b r (.slice a r.n c)from fun v' w' hc=>HS1.out.1.far hc HS1.out.2 (by decide) (by decide) (by decide))
  rw[hkn]at hk0 hk1 c0
  have hwr:IntKind.i64.wrap ((kn:Int))=(kn:Int):=by rw[IntKind.wrap_i64];omega
  have HKN:=Hd hkn
  clear hBs hx1 hb1 h hsm
  by_cases hk:kn=1
  ·subst hk
   rw[if_pos (show r.kind=1 from hkn)]at hsm2
   have HSM:=Hd hsm2
   clear ih hs hsm2
   have HN1:=Hd (show Calls Tryz.prog 61 #[.pointer (some ⟨g,0,none⟩),.int .i64 1] w1 (Bn W0 g gw v st (Ao 1) w1)from HN.out)
   have c0':w1.cell? ⟨b,0,none⟩=some (.int .u8 1):=c0
   clear HN c0 hkn hwr
   unfold Ac.val Be
   go_enter Tryz.func67,Tryz.ntmps67
   go_upto_region 1 with fail
   rw[←hw1,←hbe]
   clear hw1 hbe
   go_wp2_with fail
   refine HN1.out.mono ?_
   rintro e w2 ⟨rfl,v2,st2,hs2,hr2,hc2⟩
   have hx2:=HF.out v2 w2 hc2
   have d0:w2.cell? ⟨b,0,none⟩=some (.int .u8 1):=by have:=hx2.cell 0;rw[HKN.out]at this;exact this
   have d1:w2.cell? ⟨b,1,none⟩=some (.string r.dep.name):=hx2.cell 1
   have d2:w2.cell? ⟨b,2,none⟩=some (.int .u8 r.dep.op):=hx2.cell 2
   have d3:w2.cell? ⟨b,3,none⟩=some (.int .i64 r.dep.ep):=hx2.cell 3
   have d4:w2.cell? ⟨b,4,none⟩=some (.string r.dep.ver):=hx2.cell 4
   have d5:w2.cell? ⟨b,5,none⟩=some (.string r.dep.rel):=hx2.cell 5
   have HC2:=Hd (show AB g gw w v w2 v2∧AS st (Ao 1) st2 from⟨HC1.out.trans hc2,hr2⟩)
   have HN2:=Hd (Ia W0 g gw v2 st2 r.dep w2 HSM.out hs2)
   clear hs2 hr2 hc2 hx2 HN1 HC1 HS1 c0'
   go_wp2_with fail
   refine HN2.out.mono ?_
   rintro e w3 ⟨rfl,v3,st3,hs3,hr3,hc3⟩
   have HC3:=Hd (show AO W0 g gw v3 st3 w3∧AB g gw w v w3 v3∧AS st (Ao 1++AU r.dep) st3 from⟨hs3,HC2.out.1.trans hc3,HC2.out.2.trans hr3⟩)
   clear hs3 hr3 hc3
   go_wp2_with fail
   go_end0
   refine⟨rfl,v3,st3,HC3.out.1,?_,HC3.out.2.1⟩
   have:=HC3.out.2.2
   rw[HBs.out,if_pos (show r.kind=1 from HKN.out),HKN.out]
   exact this
  ·have hki:((kn:Int)==1)=false:=by simp;omega
   rw[if_neg (by omega)]at hsm2
   have hl:=hs.list (by have:=hsm2.1;omega)
   have HP:=Hd (show∀v2 st2 w2,AO W0 g gw v2 st2 w2→Calls Tryz.prog 66 #[.pointer (some ⟨g,0,none⟩),.slice a r.n c,.func (.func 67) #[.pointer (some ⟨g,0,none⟩)] #[]] w2 (Bn W0 g gw v2 st2 (At r) w2)from fun v2 st2 w2 h2=>by
    have:=Ji W0 g gw (Ab r) _ hl (fun x hx s v st w hh h=>by
     obtain⟨j,hj,rfl⟩:=List.mem_map.1 hx
     have hj':j<r.n:=by simpa using hj
     exact ih j hj' s v st w hh (hsm2.2 j hj') h) v2 st2 w2 h2
    rw[H5]at this
    exact this)
   clear ih hs hsm2 hl hkn
   unfold Ac.val Be
   go_enter Tryz.func67,Tryz.ntmps67
   go_upto_region 1 with fail
   rw[←hw1,←hbe]
   clear hw1 hbe
   go_wp2_with fail
   refine HN.out.mono ?_
   rintro e w2 ⟨rfl,v2,st2,hs2,hr2,hc2⟩
   have hx2:=HF.out v2 w2 hc2
   have d0:w2.cell? ⟨b,0,none⟩=some (.int .u8 (kn:Int)):=by have:=hx2.cell 0;rw[HKN.out]at this;exact this
   have d6:w2.cell? ⟨b,6,none⟩=some (.slice a r.n c):=hx2.cell 6
   have HC2:=Hd (show AB g gw w v w2 v2∧AS st (Ao kn) st2 from⟨HC1.out.trans hc2,hr2⟩)
   have HN2:=Hd (HP.out v2 st2 w2 hs2)
   clear hs2 hr2 hc2 hx2 HN HC1 HS1 c0
   go_wp2_with fail
   refine HN2.out.mono ?_
   rintro e w3 ⟨rfl,v3,st3,hs3,hr3,hc3⟩
   have HC3:=Hd (show AO W0 g gw v3 st3 w3∧AB g gw w v w3 v3∧AS st (Ao kn++At r) st3 from⟨hs3,HC2.out.1.trans hc3,HC2.out.2.trans hr3⟩)
   clear hs3 hr3 hc3
   go_wp2_with fail
   go_end0
   refine⟨rfl,v3,st3,HC3.out.1,?_,HC3.out.2.1⟩
   have:=HC3.out.2.2
   rw[HBs.out,HKN.out,if_neg (by omega),Int.toNat_natCast]
   exact this
 induction r with
 |nil=>exact fun s v st w h1 h2 h3=>step .nil s v st w h1 h2 h3 (fun j hj=>absurd hj (Nat.not_lt_zero j))
 |node k d n f ih=>exact fun s v st w h1 h2 h3=>step (.node k d n f) s v st w h1 h2 h3 (fun j _=>ih j)
theorem P1 (W0:World) (g gw:Nat) (l:List Ax) (vl:Value) (hl:LIn AW Ai W0 l vl) (hs:∀d∈l,d.small) (v:Value) (st:WT) (w:World) (h:AO W0 g gw v st w):
 Calls Tryz.prog 64 #[.pointer (some ⟨g,0,none⟩),vl,.func (.func 65) #[.pointer (some ⟨g,0,none⟩)] #[]] w (Bn W0 g gw v st (AQ AU l) w):=
 Nt W0 g gw l vl hl (fun x hx _ v st w _ h=>Ia W0 g gw v st x w (hs x hx) h) v st w h
theorem Ho (W0:World) (g gw:Nat) (r:Ac) (vl:Value) (hl:LIn Aj Ai W0 (Ab r) vl) (hs:∀j,j<r.n→CE (r.args j)) (v:Value) (st:WT) (w:World) (h:AO W0 g gw v st w):
 Calls Tryz.prog 66 #[.pointer (some ⟨g,0,none⟩),vl,.func (.func 67) #[.pointer (some ⟨g,0,none⟩)] #[]] w (Bn W0 g gw v st (At r) w):=by
 have:=Ji W0 g gw (Ab r) vl hl (fun x hx s v st w hh h=>by
  obtain⟨j,hj,rfl⟩:=List.mem_map.1 hx
  exact KX W0 g gw (r.args j) s v st w hh (hs j (by simpa using hj)) h) v st w h
 rw[H5]at this
 exact this
theorem QP (W0:World) (g gw:Nat) (l:List ByteArray) (vl:Value) (hl:LIn A2 Ai W0 l vl) (hs:∀d∈l,d.size≤64) (v:Value) (st:WT) (w:World) (h:AO W0 g gw v st w):
 Calls Tryz.prog 68 #[.pointer (some ⟨g,0,none⟩),vl,.func (.func 62) #[.pointer (some ⟨g,0,none⟩)] #[]] w (Bn W0 g gw v st (AQ AG l) w):=
 Nq W0 g gw l vl hl (fun x hx _ v st w _ h=>Cm W0 g gw v st x w (by have:=hs x hx;omega) h) v st w h
theorem BA {wh:Int} {r:Ac} (h:Ay wh r=true):∀j,j<r.n→CE (r.args j):=fun j hj=>MA ((Ja h).2 j hj)
def four {α:Type} (z x0 x1 x2 x3:α):Nat→α|0=>x0|1=>x1|2=>x2|3=>x3|_=>z
theorem MK {w:World} {b:Nat} {t:TypeId} {x0 x1 x2 x3:Value} (h:Blk w b t #[x0,x1,x2,x3]) (k:Nat) (hk:k<4):w.cell? ⟨b,k,none⟩=some (four undef x0 x1 x2 x3 k):=by
 have:k=0∨k=1∨k=2∨k=3:=by omega
 rcases this with rfl|rfl|rfl|rfl
 ·exact h.cell 0
 ·exact h.cell 1
 ·exact h.cell 2
 ·exact h.cell 3
theorem MW (W0:World) (g gw:Nat) (v:Value) (st:WT) (p:Aq) (r:AE) (w:World) (hp:Ah Ai W0 p r) (hm:Q6 p) (h:AO W0 g gw v st w):
 Calls Tryz.prog 31 #[.pointer (some ⟨g,0,none⟩),p.val r] w (Bn W0 g gw v st (A4 p) w):=by
 rcases r with ⟨r1,r2,r3,r4,r5,r6,r7,r8,r9⟩
 obtain⟨a1,q1,(rfl:r1=_)⟩:=hp.prov.form
 obtain⟨a2,q2,(rfl:r2=_)⟩:=hp.req.form
 obtain⟨a3,q3,(rfl:r3=_)⟩:=hp.con.form
 obtain⟨a4,q4,(rfl:r4=_)⟩:=hp.obs.form
 obtain⟨a5,q5,(rfl:r5=_)⟩:=hp.reco.form
 obtain⟨a6,q6,(rfl:r6=_)⟩:=hp.sup.form
 obtain⟨a7,q7,(rfl:r7=_)⟩:=hp.sug.form
 obtain⟨a8,q8,(rfl:r8=_)⟩:=hp.enh.form
 obtain⟨a9,q9,(rfl:r9=_)⟩:=hp.files.form
 obtain⟨m1,m2,⟨m3,m4⟩,m5,⟨m6,m7⟩,⟨m8,m9⟩,⟨m10,m11⟩,m12,m13,m14,m15,m16,m17⟩:=hm
 obtain⟨e1,e2,e3,e4⟩:=EN m2
 have n1:=C2 m1
 obtain⟨an,han⟩:∃n:Nat,p.arch=n:=⟨p.arch.toNat,(F5 (by omega)).symm⟩
 have hwr:IntKind.i64.wrap ((an:Int))=(an:Int):=by rw[IntKind.wrap_i64];omega
 obtain⟨Bs,hBs⟩:∃Bs,Bs=A4 p:=⟨_,rfl⟩
 rw[←hBs]
 have HBs:=Hd hBs
 have HP1:=Hd (P1 W0 g gw p.prov _ hp.prov fun d hd=>Dn (m7 d hd))
 have HP2:=Hd (Ho W0 g gw p.req _ hp.req (BA m12))
 have HP3:=Hd (Ho W0 g gw p.con _ hp.con (BA m13))
 have HP4:=Hd (P1 W0 g gw p.obs _ hp.obs fun d hd=>Dn (m9 d hd))
 have HP5:=Hd (Ho W0 g gw p.reco _ hp.reco (BA m14))
 have HP6:=Hd (Ho W0 g gw p.sup _ hp.sup (BA m15))
 have HP7:=Hd (Ho W0 g gw p.sug _ hp.sug (BA m16))
 have HP8:=Hd (Ho W0 g gw p.enh _ hp.enh (BA m17))
 have HP9:=Hd (QP W0 g gw p.files _ hp.files fun d hd=>C2 (H4 (m11 d hd)))
 have hb1:=Ag w (.cells #[.string p.name,.int .i64 p.ep,.string p.ver,.string p.rel,.int .u8 p.arch,.string p.vendor,.slice a1 p.prov.length q1,.slice a2 (Ab p.req).length q2,.slice a3 (Ab p.con).length q3,.slice a4 p.obs.length q4,.slice a5 (Ab p.reco).length q5,.slice a6 (Ab p.sup).length q6,.slice a7 (Ab p.sug).length q7,.slice a8 (Ab p.enh).length q8,.slice a9 p.files.length q9] 29)
 obtain⟨b,hbe⟩:∃b,b=w.heap.size:=⟨_,rfl⟩
 obtain⟨w1,hw1⟩:∃w1,w1=w.alloc (.cells #[.string p.name,.int .i64 p.ep,.string p.ver,.string p.rel,.int .u8 p.arch,.string p.vendor,.slice a1 p.prov.length q1,.slice a2 (Ab p.req).length q2,.slice a3 (Ab p.con).length q3,.slice a4 p.obs.length q4,.slice a5 (Ab p.reco).length q5,.slice a6 (Ab p.sup).length q6,.slice a7 (Ab p.sug).length q7,.slice a8 (Ab p.enh).length q8,.slice a9 p.files.length q9] 29):=⟨_,rfl⟩
 have hx:Blk w1 b 29 #[.string p.name,.int .i64 p.ep,.string p.ver,.string p.rel,.int .u8 p.arch,.string p.vendor,.slice a1 p.prov.length q1,.slice a2 (Ab p.req).length q2,.slice a3 (Ab p.con).length q3,.slice a4 p.obs.length q4,.slice a5 (Ab p.reco).length q5,.slice a6 (Ab p.sup).length q6,.slice a7 (Ab p.sug).length q7,.slice a8 (Ab p.enh).length q8,.slice a9 p.files.length q9]:=by rw[hw1,hbe];exact Blk.new _ _ _
 rw[←hw1]at hb1
 have hs1:=h.below hb1
 have HF:=Hd (show∀v v' st w w',AO W0 g gw v st w∧Blk w b 29 #[.string p.name,.int .i64 p.ep,.string p.ver,.string p.rel,.int .u8 p.arch,.string p.vendor,.slice a1 p.prov.length q1,.slice a2 (Ab p.req).length q2,.slice a3 (Ab p.con).length q3,.slice a4 p.obs.length q4,.slice a5 (Ab p.reco).length q5,.slice a6 (Ab p.sup).length q6,.slice a7 (Ab p.sug).length q7,.slice a8 (Ab p.enh).length q8,.slice a9 p.files.length q9]→AB g gw w v w' v'→Blk w' b 29 #[.string p.name,.int .i64 p.ep,.string p.ver,.string p.rel,.int .u8 p.arch,.string p.vendor,.slice a1 p.prov.length q1,.slice a2 (Ab p.req).length q2,.slice a3 (Ab p.con).length q3,.slice a4 p.obs.length q4,.slice a5 (Ab p.reco).length q5,.slice a6 (Ab p.sup).length q6,.slice a7 (Ab p.sug).length q7,.slice a8 (Ab p.enh).length q8,.slice a9 p.files.length q9]from fun v v' st w w' h hc=>h.1.far hc h.2 (by decide) (by decide) (by decide))
 have HQ1:=Hd (show(AO W0 g gw v st w1∧Blk w1 b 29 #[.string p.name,.int .i64 p.ep,.string p.ver,.string p.rel,.int .u8 p.arch,.string p.vendor,.slice a1 p.prov.length q1,.slice a2 (Ab p.req).length q2,.slice a3 (Ab p.con).length q3,.slice a4 p.obs.length q4,.slice a5 (Ab p.reco).length q5,.slice a6 (Ab p.sup).length q6,.slice a7 (Ab p.sug).length q7,.slice a8 (Ab p.enh).length q8,.slice a9 p.files.length q9])∧AB g gw w v w1 v from⟨⟨hs1,hx⟩,AB.of_below hb1⟩)
 have c0:w1.cell? ⟨b,0,none⟩=some (.string p.name):=hx.cell 0
 have HN1:=Hd (Cm W0 g gw v st p.name w1 (by omega) hs1)
 have HE:=Hd (fun v st w=>H9 W0 g gw v st p.ep p.ver p.rel w e1 (by omega) (by omega) (by omega))
 have HA:=Hd (fun v st w=>Bu W0 g gw v st an w (by omega))
 have HV:=Hd (fun v st w=>Cm W0 g gw v st p.vendor w (by omega))
 have HAN:=Hd han
 clear hx hb1 h hs1 hp hBs m1 m2 m5 m6 m7 m8 m9 m10 m11 m12 m13 m14 m15 m16 m17 e1 e2 e3 e4 n1 han
 unfold Aq.val
 go_enter Tryz.func31,Tryz.ntmps31
 go_upto_region 1 with fail
 rw[←hw1,←hbe]
 clear hw1 hbe
 go_wp2_with fail
 refine HN1.out.mono ?_
 rintro e w2 ⟨rfl,v2,st2,hs2,hr2,hc2⟩
 have hx:=HF.out _ v2 _ _ w2 HQ1.out.1 hc2
 have HQ2:=Hd (show(AO W0 g gw v2 st2 w2∧Blk w2 b 29 #[.string p.name,.int .i64 p.ep,.string p.ver,.string p.rel,.int .u8 p.arch,.string p.vendor,.slice a1 p.prov.length q1,.slice a2 (Ab p.req).length q2,.slice a3 (Ab p.con).length q3,.slice a4 p.obs.length q4,.slice a5 (Ab p.reco).length q5,.slice a6 (Ab p.sup).length q6,.slice a7 (Ab p.sug).length q7,.slice a8 (Ab p.enh).length q8,.slice a9 p.files.length q9])∧AB g gw w v w2 v2∧AS st (AG p.name) st2 from⟨⟨hs2,hx⟩,HQ1.out.2.trans hc2,hr2⟩)
 have c1:w2.cell? ⟨b,1,none⟩=some (.int .i64 p.ep):=hx.cell 1
 have c2:w2.cell? ⟨b,2,none⟩=some (.string p.ver):=hx.cell 2
 have c3:w2.cell? ⟨b,3,none⟩=some (.string p.rel):=hx.cell 3
 have HN2:=Hd (HE.out v2 st2 w2 hs2)
 clear hs2 hr2 hc2 hx HN1 HQ1 c0
 go_wp2_with fail
 refine HN2.out.mono ?_
 rintro e w3 ⟨rfl,v3,st3,hs3,hr3,hc3⟩
 have hx:=HF.out _ v3 _ _ w3 HQ2.out.1 hc3
 have HQ3:=Hd (show(AO W0 g gw v3 st3 w3∧Blk w3 b 29 #[.string p.name,.int .i64 p.ep,.string p.ver,.string p.rel,.int .u8 p.arch,.string p.vendor,.slice a1 p.prov.length q1,.slice a2 (Ab p.req).length q2,.slice a3 (Ab p.con).length q3,.slice a4 p.obs.length q4,.slice a5 (Ab p.reco).length q5,.slice a6 (Ab p.sup).length q6,.slice a7 (Ab p.sug).length q7,.slice a8 (Ab p.enh).length q8,.slice a9 p.files.length q9])∧AB g gw w v w3 v3∧AS st (AG p.name++BB p.ep p.ver p.rel) st3 from⟨⟨hs3,hx⟩,HQ2.out.2.1.trans hc3,HQ2.out.2.2.trans hr3⟩)
 have c4:w3.cell? ⟨b,4,none⟩=some (.int .u8 (an:Int)):=by have:=hx.cell 4;rw[HAN.out]at this;exact this
 have HN3:=Hd (HA.out v3 st3 w3 hs3)
 clear hs3 hr3 hc3 hx HN2 HQ2 c1 c2 c3
 go_wp2_with fail
 refine HN3.out.mono ?_
 rintro e w4 ⟨rfl,v4,st4,hs4,hr4,hc4⟩
 have hx:=HF.out _ v4 _ _ w4 HQ3.out.1 hc4
 have HQ4:=Hd (show(AO W0 g gw v4 st4 w4∧Blk w4 b 29 #[.string p.name,.int .i64 p.ep,.string p.ver,.string p.rel,.int .u8 p.arch,.string p.vendor,.slice a1 p.prov.length q1,.slice a2 (Ab p.req).length q2,.slice a3 (Ab p.con).length q3,.slice a4 p.obs.length q4,.slice a5 (Ab p.reco).length q5,.slice a6 (Ab p.sup).length q6,.slice a7 (Ab p.sug).length q7,.slice a8 (Ab p.enh).length q8,.slice a9 p.files.length q9])∧AB g gw w v w4 v4∧AS st (AG p.name++BB p.ep p.ver p.rel++Ao an) st4 from⟨⟨hs4,hx⟩,HQ3.out.2.1.trans hc4,HQ3.out.2.2.trans hr4⟩)
 have c5:w4.cell? ⟨b,5,none⟩=some (.string p.vendor):=hx.cell 5
 have HN4:=Hd (HV.out v4 st4 w4 hs4)
 clear hs4 hr4 hc4 hx HN3 HQ3 c4
 go_wp2_with fail
 refine HN4.out.mono ?_
 rintro e w5 ⟨rfl,v5,st5,hs5,hr5,hc5⟩
 have hx:=HF.out _ v5 _ _ w5 HQ4.out.1 hc5
 have HQ5:=Hd (show(AO W0 g gw v5 st5 w5∧Blk w5 b 29 #[.string p.name,.int .i64 p.ep,.string p.ver,.string p.rel,.int .u8 p.arch,.string p.vendor,.slice a1 p.prov.length q1,.slice a2 (Ab p.req).length q2,.slice a3 (Ab p.con).length q3,.slice a4 p.obs.length q4,.slice a5 (Ab p.reco).length q5,.slice a6 (Ab p.sup).length q6,.slice a7 (Ab p.sug).length q7,.slice a8 (Ab p.enh).length q8,.slice a9 p.files.length q9])∧AB g gw w v w5 v5∧AS st (AG p.name++BB p.ep p.ver p.rel++Ao an++AG p.vendor) st5 from⟨⟨hs5,hx⟩,HQ4.out.2.1.trans hc5,HQ4.out.2.2.trans hr5⟩)
 have c6:w5.cell? ⟨b,6,none⟩=some (.slice a1 p.prov.length q1):=hx.cell 6
 have HN5:=Hd (HP1.out v5 st5 w5 hs5)
 clear hs5 hr5 hc5 hx HN4 HQ4 c5
 go_wp2_with fail
 refine HN5.out.mono ?_
 rintro e w6 ⟨rfl,v6,st6,hs6,hr6,hc6⟩
 have hx:=HF.out _ v6 _ _ w6 HQ5.out.1 hc6
 have HQ6:=Hd (show(AO W0 g gw v6 st6 w6∧Blk w6 b 29 #[.string p.name,.int .i64 p.ep,.string p.ver,.string p.rel,.int .u8 p.arch,.string p.vendor,.slice a1 p.prov.length q1,.slice a2 (Ab p.req).length q2,.slice a3 (Ab p.con).length q3,.slice a4 p.obs.length q4,.slice a5 (Ab p.reco).length q5,.slice a6 (Ab p.sup).length q6,.slice a7 (Ab p.sug).length q7,.slice a8 (Ab p.enh).length q8,.slice a9 p.files.length q9])∧AB g gw w v w6 v6∧AS st (AG p.name++BB p.ep p.ver p.rel++Ao an++AG p.vendor++AQ AU p.prov) st6 from⟨⟨hs6,hx⟩,HQ5.out.2.1.trans hc6,HQ5.out.2.2.trans hr6⟩)
 have c7:w6.cell? ⟨b,7,none⟩=some (.slice a2 (Ab p.req).length q2):=hx.cell 7
 have HN6:=Hd (HP2.out v6 st6 w6 hs6)
 clear hs6 hr6 hc6 hx HN5 HQ5 c6
 go_wp2_with fail
 refine HN6.out.mono ?_
 rintro e w7 ⟨rfl,v7,st7,hs7,hr7,hc7⟩
 have hx:=HF.out _ v7 _ _ w7 HQ6.out.1 hc7
 have HQ7:=Hd (show(AO W0 g gw v7 st7 w7∧Blk w7 b 29 #[.string p.name,.int .i64 p.ep,.string p.ver,.string p.rel,.int .u8 p.arch,.string p.vendor,.slice a1 p.prov.length q1,.slice a2 (Ab p.req).length q2,.slice a3 (Ab p.con).length q3,.slice a4 p.obs.length q4,.slice a5 (Ab p.reco).length q5,.slice a6 (Ab p.sup).length q6,.slice a7 (Ab p.sug).length q7,.slice a8 (Ab p.enh).length q8,.slice a9 p.files.length q9])∧AB g gw w v w7 v7∧AS st (AG p.name++BB p.ep p.ver p.rel++Ao an++AG p.vendor++AQ AU p.prov++At p.req) st7 from⟨⟨hs7,hx⟩,HQ6.out.2.1.trans hc7,HQ6.out.2.2.trans hr7⟩)
 have c8:w7.cell? ⟨b,8,none⟩=some (.slice a3 (Ab p.con).length q3):=hx.cell 8
 have HN7:=Hd (HP3.out v7 st7 w7 hs7)
 clear hs7 hr7 hc7 hx HN6 HQ6 c7
 go_wp2_with fail
 refine HN7.out.mono ?_
 rintro e w8 ⟨rfl,v8,st8,hs8,hr8,hc8⟩
 have hx:=HF.out _ v8 _ _ w8 HQ7.out.1 hc8
 have HQ8:=Hd (show(AO W0 g gw v8 st8 w8∧Blk w8 b 29 #[.string p.name,.int .i64 p.ep,.string p.ver,.string p.rel,.int .u8 p.arch,.string p.vendor,.slice a1 p.prov.length q1,.slice a2 (Ab p.req).length q2,.slice a3 (Ab p.con).length q3,.slice a4 p.obs.length q4,.slice a5 (Ab p.reco).length q5,.slice a6 (Ab p.sup).length q6,.slice a7 (Ab p.sug).length q7,.slice a8 (Ab p.enh).length q8,.slice a9 p.files.length q9])∧AB g gw w v w8 v8∧AS st (AG p.name++BB p.ep p.ver p.rel++Ao an++AG p.vendor++AQ AU p.prov++At p.req++At p.con) st8 from⟨⟨hs8,hx⟩,HQ7.out.2.1.trans hc8,HQ7.out.2.2.trans hr8⟩)
 have c9:w8.cell? ⟨b,9,none⟩=some (.slice a4 p.obs.length q4):=hx.cell 9
 have HN8:=Hd (HP4.out v8 st8 w8 hs8)
 clear hs8 hr8 hc8 hx HN7 HQ7 c8
 go_wp2_with fail
 refine HN8.out.mono ?_
 rintro e w9 ⟨rfl,v9,st9,hs9,hr9,hc9⟩
 have hx:=HF.out _ v9 _ _ w9 HQ8.out.1 hc9
 have HQ9:=Hd (show(AO W0 g gw v9 st9 w9∧Blk w9 b 29 #[.string p.name,.int .i64 p.ep,.string p.ver,.string p.rel,.int .u8 p.arch,.string p.vendor,.slice a1 p.prov.length q1,.slice a2 (Ab p.req).length q2,.slice a3 (Ab p.con).length q3,.slice a4 p.obs.length q4,.slice a5 (Ab p.reco).length q5,.slice a6 (Ab p.sup).length q6,.slice a7 (Ab p.sug).length q7,.slice a8 (Ab p.enh).length q8,.slice a9 p.files.length q9])∧AB g gw w v w9 v9∧AS st (AG p.name++BB p.ep p.ver p.rel++Ao an++AG p.vendor++AQ AU p.prov++At p.req++At p.con++AQ AU p.obs) st9 from⟨⟨hs9,hx⟩,HQ8.out.2.1.trans hc9,HQ8.out.2.2.trans hr9⟩)
 have c10:w9.cell? ⟨b,10,none⟩=some (.slice a5 (Ab p.reco).length q5):=hx.cell 10
 have c11:w9.cell? ⟨b,11,none⟩=some (.slice a6 (Ab p.sup).length q6):=hx.cell 11
 have c12:w9.cell? ⟨b,12,none⟩=some (.slice a7 (Ab p.sug).length q7):=hx.cell 12
 have c13:w9.cell? ⟨b,13,none⟩=some (.slice a8 (Ab p.enh).length q8):=hx.cell 13
 clear hs9 hr9 hc9 hx HN8 HQ8 c9
 obtain⟨bL,hbL⟩:∃bL,bL=w9.heap.size:=⟨_,rfl⟩
 obtain⟨wL,hwL⟩:∃wL,wL=w9.alloc (.cells #[.slice a5 (Ab p.reco).length q5,.slice a6 (Ab p.sup).length q6,.slice a7 (Ab p.sug).length q7,.slice a8 (Ab p.enh).length q8] 26):=⟨_,rfl⟩
 have hbn:=Ag w9 (.cells #[.slice a5 (Ab p.reco).length q5,.slice a6 (Ab p.sup).length q6,.slice a7 (Ab p.sug).length q7,.slice a8 (Ab p.enh).length q8] 26)
 have hxL:Blk wL bL 26 #[.slice a5 (Ab p.reco).length q5,.slice a6 (Ab p.sup).length q6,.slice a7 (Ab p.sug).length q7,.slice a8 (Ab p.enh).length q8]:=by rw[hwL,hbL];exact Blk.new _ _ _
 rw[←hwL]at hbn
 have HQL:=Hd (show((AO W0 g gw v9 st9 wL∧Blk wL b 29 #[.string p.name,.int .i64 p.ep,.string p.ver,.string p.rel,.int .u8 p.arch,.string p.vendor,.slice a1 p.prov.length q1,.slice a2 (Ab p.req).length q2,.slice a3 (Ab p.con).length q3,.slice a4 p.obs.length q4,.slice a5 (Ab p.reco).length q5,.slice a6 (Ab p.sup).length q6,.slice a7 (Ab p.sug).length q7,.slice a8 (Ab p.enh).length q8,.slice a9 p.files.length q9])∧Blk wL bL 26 #[.slice a5 (Ab p.reco).length q5,.slice a6 (Ab p.sup).length q6,.slice a7 (Ab p.sug).length q7,.slice a8 (Ab p.enh).length q8])∧AB g gw w v wL v9∧AS st (AG p.name++BB p.ep p.ver p.rel++Ao an++AG p.vendor++AQ AU p.prov++At p.req++At p.con++AQ AU p.obs++B3 (four [] (At p.reco) (At p.sup) (At p.sug) (At p.enh)) 0) st9 from
  ⟨⟨⟨HQ9.out.1.1.below hbn,HQ9.out.1.2.below hbn HQ9.out.1.2.lt⟩,hxL⟩,HQ9.out.2.1.trans (AB.of_below hbn),by rw[show B3 (four [] (At p.reco) (At p.sup) (At p.sug) (At p.enh)) 0= []from rfl,List.append_nil];exact HQ9.out.2.2⟩)
 have HFL:=Hd (show∀v v' st w w',AO W0 g gw v st w→Blk w bL 26 #[.slice a5 (Ab p.reco).length q5,.slice a6 (Ab p.sup).length q6,.slice a7 (Ab p.sug).length q7,.slice a8 (Ab p.enh).length q8]→AB g gw w v w' v'→Blk w' bL 26 #[.slice a5 (Ab p.reco).length q5,.slice a6 (Ab p.sup).length q6,.slice a7 (Ab p.sug).length q7,.slice a8 (Ab p.enh).length q8]from fun v v' st w w' h hb hc=>h.far hc hb (by decide) (by decide) (by decide))
 have HPV:=Hd (show∀k,k<4→∀v st w,AO W0 g gw v st w→Calls Tryz.prog 66 #[.pointer (some ⟨g,0,none⟩),(four undef (.slice a5 (Ab p.reco).length q5) (.slice a6 (Ab p.sup).length q6) (.slice a7 (Ab p.sug).length q7) (.slice a8 (Ab p.enh).length q8)) k,.func (.func 67) #[.pointer (some ⟨g,0,none⟩)] #[]] w (Bn W0 g gw v st ((four [] (At p.reco) (At p.sup) (At p.sug) (At p.enh)) k) w)from fun k hk=>by
  have:k=0∨k=1∨k=2∨k=3:=by omega
  rcases this with rfl|rfl|rfl|rfl
  ·exact HP5.out
  ·exact HP6.out
  ·exact HP7.out
  ·exact HP8.out)
 clear hxL hbn HQ9
 go_upto_region 10 with fail
 rw[←hwL,←hbL]
 clear hwL hbL c10 c11 c12 c13
 go_loopw [5,57] (fun y i wr=>∃(k:Nat) (vk:Value) (stk:WT),k≤4∧i= .int .i64 k∧Hid (((AO W0 g gw vk stk wr∧Blk wr b 29 #[.string p.name,.int .i64 p.ep,.string p.ver,.string p.rel,.int .u8 p.arch,.string p.vendor,.slice a1 p.prov.length q1,.slice a2 (Ab p.req).length q2,.slice a3 (Ab p.con).length q3,.slice a4 p.obs.length q4,.slice a5 (Ab p.reco).length q5,.slice a6 (Ab p.sup).length q6,.slice a7 (Ab p.sug).length q7,.slice a8 (Ab p.enh).length q8,.slice a9 p.files.length q9])∧Blk wr bL 26 #[.slice a5 (Ab p.reco).length q5,.slice a6 (Ab p.sup).length q6,.slice a7 (Ab p.sug).length q7,.slice a8 (Ab p.enh).length q8])∧AB g gw w v wr vk∧AS st (AG p.name++BB p.ep p.ver p.rel++Ao an++AG p.vendor++AQ AU p.prov++At p.req++At p.con++AQ AU p.obs++B3 (four [] (At p.reco) (At p.sup) (At p.sug) (At p.enh)) k) stk)) (fun y i wr=>4-(intOf i).toNat)
 case atStart=>exact⟨0,v9,st9,by omega,rfl,HQL⟩
 case round=>
  obtain⟨k,vk,stk,hk,rfl,HK⟩:=hrel
  by_cases hlt:k<4
  ·have hki:(k:Int)<4:=by omega
   have ck:=MK HK.out.1.2 k hlt
   have lk:=HK.out.1.2.lt
   have HM:=Hd (HPV.out k hlt vk stk wr HK.out.1.1.1)
   obtain⟨V,hV⟩:∃V,V=(four undef (.slice a5 (Ab p.reco).length q5) (.slice a6 (Ab p.sup).length q6) (.slice a7 (Ab p.sug).length q7) (.slice a8 (Ab p.enh).length q8)) k:=⟨_,rfl⟩
   rw[←hV]at ck HM
   clear hV
   go_wp2_with (first
    |(go_at_call 66;(with_reducible refine HM.out.mono ?_);rintro e w2 ⟨rfl,v2,st2,hs2,hr2,hc2⟩;have HK2:=Hd (show((AO W0 g gw v2 st2 w2∧Blk w2 b 29 #[.string p.name,.int .i64 p.ep,.string p.ver,.string p.rel,.int .u8 p.arch,.string p.vendor,.slice a1 p.prov.length q1,.slice a2 (Ab p.req).length q2,.slice a3 (Ab p.con).length q3,.slice a4 p.obs.length q4,.slice a5 (Ab p.reco).length q5,.slice a6 (Ab p.sup).length q6,.slice a7 (Ab p.sug).length q7,.slice a8 (Ab p.enh).length q8,.slice a9 p.files.length q9])∧Blk w2 bL 26 #[.slice a5 (Ab p.reco).length q5,.slice a6 (Ab p.sup).length q6,.slice a7 (Ab p.sug).length q7,.slice a8 (Ab p.enh).length q8])∧AB g gw w v w2 v2∧AS st (AG p.name++BB p.ep p.ver p.rel++Ao an++AG p.vendor++AQ AU p.prov++At p.req++At p.con++AQ AU p.obs++B3 (four [] (At p.reco) (At p.sup) (At p.sug) (At p.enh)) (k+1)) st2 from⟨⟨⟨hs2,HF.out _ v2 _ _ w2 HK.out.1.1 hc2⟩,HFL.out _ v2 _ _ w2 HK.out.1.1.1 HK.out.1.2 hc2⟩,HK.out.2.1.trans hc2,by(have:=HK.out.2.2.trans hr2;rw[List.append_assoc]at this;exact this)⟩);clear hs2 hr2 hc2)
    |fail)
   go_roundw
   case rel=>exact⟨k+1,v2,st2,by omega,by go_num,HK2⟩
   case measure=>simp[intOf];omega
  ·obtain rfl:k=4:=by omega
   have c14:wr.cell? ⟨b,14,none⟩=some (.slice a9 p.files.length q9):=HK.out.1.1.2.cell 14
   have HN9:=Hd (HP9.out vk stk wr HK.out.1.1.1)
   go_wp2_with (first
    |(go_at_call 68;(with_reducible refine HN9.out.mono ?_);rintro e w2 ⟨rfl,v2,st2,hs2,hr2,hc2⟩;have HK2:=Hd (show AO W0 g gw v2 st2 w2∧AB g gw w v w2 v2∧AS st (AG p.name++BB p.ep p.ver p.rel++Ao an++AG p.vendor++AQ AU p.prov++At p.req++At p.con++AQ AU p.obs++B3 (four [] (At p.reco) (At p.sup) (At p.sug) (At p.enh)) 4++AQ AG p.files) st2 from⟨hs2,HK.out.2.1.trans hc2,HK.out.2.2.trans hr2⟩);clear hs2 hr2 hc2)
    |fail)
   go_end0
   refine⟨rfl,v2,st2,HK2.out.1,?_,HK2.out.2.1⟩
   have:=HK2.out.2.2
   rw[HBs.out]
   unfold A4
   rw[HAN.out,Int.toNat_natCast]
   simp only[B3,four,List.nil_append,List.append_assoc]at this ⊢
   exact this
theorem P0 (W0:World) (g gw:Nat) (l:List Aq) (vl:Value) (hl:LIn AN Ai W0 l vl) (hs:l.all A9=true) (v:Value) (st:WT) (w:World) (h:AO W0 g gw v st w):
 Calls Tryz.prog 30 #[.pointer (some ⟨g,0,none⟩),vl,.func (.func 31) #[.pointer (some ⟨g,0,none⟩)] #[]] w (Bn W0 g gw v st (AQ A4 l) w):=
 Nr W0 g gw l vl hl (fun x hx r v st w hh h=>MW W0 g gw v st x r w hh (IE (List.all_eq_true.1 hs x hx)) h) v st w h
theorem KY (W0:World) (g gw:Nat) (v:Value) (st:WT) (x:AK) (r:Value) (w:World) (hp:LIn AN Ai W0 x.pkgs r) (h0:0≤x.prio) (h1:x.prio≤1024) (hm:x.pkgs.all A9=true) (h:AO W0 g gw v st w):
 Calls Tryz.prog 29 #[.pointer (some ⟨g,0,none⟩),.agg #[.int .i64 x.prio,r]] w (Bn W0 g gw v st (C9 x) w):=by
 obtain⟨a1,q1,(rfl:r=_)⟩:=hp.form
 obtain⟨n,hn⟩:∃n:Nat,x.prio=n:=⟨x.prio.toNat,(F5 h0).symm⟩
 obtain⟨Bs,hBs⟩:∃Bs,Bs=C9 x:=⟨_,rfl⟩
 rw[←hBs]
 have HBs:=Hd (show Bs=Ao n++AQ A4 x.pkgs by rw[hBs];unfold C9;rw[hn,Int.toNat_natCast])
 have HP:=Hd (P0 W0 g gw x.pkgs _ hp hm)
 rw[hn]at h1 ⊢
 have hb1:=Ag w (.cells #[.int .i64 (n:Int),.slice a1 x.pkgs.length q1] 38)
 obtain⟨b,hbe⟩:∃b,b=w.heap.size:=⟨_,rfl⟩
 obtain⟨w1,hw1⟩:∃w1,w1=w.alloc (.cells #[.int .i64 (n:Int),.slice a1 x.pkgs.length q1] 38):=⟨_,rfl⟩
 have hx:Blk w1 b 38 #[.int .i64 (n:Int),.slice a1 x.pkgs.length q1]:=by rw[hw1,hbe];exact Blk.new _ _ _
 rw[←hw1]at hb1
 have HQ1:=Hd (show(AO W0 g gw v st w1∧Blk w1 b 38 #[.int .i64 (n:Int),.slice a1 x.pkgs.length q1])∧AB g gw w v w1 v from⟨⟨h.below hb1,hx⟩,AB.of_below hb1⟩)
 have c0:w1.cell? ⟨b,0,none⟩=some (.int .i64 (n:Int)):=hx.cell 0
 have HN:=Hd (Bu W0 g gw v st n w1 (by omega) HQ1.out.1.1)
 clear hx hb1 h hp hm h0 hn hBs
 go_enter Tryz.func29,Tryz.ntmps29
 go_upto_region 1 with fail
 rw[←hw1,←hbe]
 clear hw1 hbe
 go_wp2_with fail
 refine HN.out.mono ?_
 rintro e w2 ⟨rfl,v2,st2,hs2,hr2,hc2⟩
 have hx2:=HQ1.out.1.1.far hc2 HQ1.out.1.2 (by decide) (by decide) (by decide)
 have c1:w2.cell? ⟨b,1,none⟩=some (.slice a1 x.pkgs.length q1):=hx2.cell 1
 have HQ2:=Hd (show AB g gw w v w2 v2∧AS st (Ao n) st2 from⟨HQ1.out.2.trans hc2,hr2⟩)
 have HN2:=Hd (HP.out v2 st2 w2 hs2)
 clear hs2 hr2 hc2 hx2 HN HQ1 c0
 go_wp2_with fail
 refine HN2.out.mono ?_
 rintro e w3 ⟨rfl,v3,st3,hs3,hr3,hc3⟩
 have HQ3:=Hd (show AO W0 g gw v3 st3 w3∧AB g gw w v w3 v3∧AS st (Ao n++AQ A4 x.pkgs) st3 from⟨hs3,HQ2.out.1.trans hc3,HQ2.out.2.trans hr3⟩)
 clear hs3 hr3 hc3
 go_wp2_with fail
 go_end0
 refine⟨rfl,v3,st3,HQ3.out.1,?_,HQ3.out.2.1⟩
 rw[HBs.out]
 exact HQ3.out.2.2
theorem QQ (W0:World) (g gw:Nat) (l:List AK) (vl:Value) (hl:LIn Az Ai W0 l vl) (h1:l.all (fun r=>decide (0≤r.prio) && decide (r.prio≤1024))=true) (h2:l.all (fun r=>r.pkgs.all A9)=true) (v:Value) (st:WT) (w:World) (h:AO W0 g gw v st w):
 Calls Tryz.prog 28 #[.pointer (some ⟨g,0,none⟩),vl,.func (.func 29) #[.pointer (some ⟨g,0,none⟩)] #[]] w (Bn W0 g gw v st (AQ C9 l) w):=
 Ns W0 g gw l vl hl (fun x hx r v st w hh h=>by
  have h3:=List.all_eq_true.1 h1 x hx
  simp only[Bool.and_eq_true,decide_eq_true_eq]at h3
  exact KY W0 g gw v st x r w hh.2 h3.1 h3.2 (List.all_eq_true.1 h2 x hx) h) v st w h
end Go.Proofs.YtdpjjnbelgaagaaGreatDoor
