/- pkg.lists: the iterator's contract. Conditions: as each theorem names them. -/
import Derived.Test.YtdpjjnbelgaagaaGreatDoorG08
import Derived.Test.YtdpjjnbelgaagaaGreatDoorG02
import Derived.Test.YtdpjjnbelgaagaaGreatDoorG03
namespace Go.Proofs.YtdpjjnbelgaagaaGreatDoor
set_option maxHeartbeats 32000000
open Go.ChangeShapes Go.WideShapes Go.ChangeAt Go.RowKit Go.Deep Go.Shelf
set_option maxRecDepth 100000
attribute [local go_sem] Oper.semAt_some
abbrev Ge (p:Aq) (r:AE):Array Value:= #[.string p.name,.int .i64 p.ep,.string p.ver,.string p.rel,.int .u8 p.arch,.string p.vendor,r.prov,r.req,r.con,r.obs,r.reco,r.sup,r.sug,r.enh,r.files]
structure PL (W0:World) where
 wh:Int
 v:Value
 y:Ac
 hw:0≤wh∧wh<256
 hl:LIn Aj Ai W0 (Ab y) v
 hc:∀x∈Ab y,x.count≤4611686018427387904
abbrev Qe {W0:World} (x:PL W0):Array Value:= #[.int .u8 x.wh,x.v]
def LGo {W0:World} (l m Bb:Nat) (p:Aq) (r:AE) (J Jx:List (PL W0)→World→Prop) (pre:List (PL W0)) (x:PL W0) (wh:Int) (v:Value) (W:World):Prop:=
 ∃fn tmps assign body,(Instr.yield l #[.int .u8 wh,v]).run Tryz.prog W= .ok (.round l fn tmps assign body) W∧Hid (RoundIn Fence.wide m Tryz.prog l fn tmps assign body W fun e W'=>
  (e= .returned (.bool true)∧Hid (J (pre++ [x]) W'∧Blk W' Bb 29 (Ge p r)))∨(e= .returned (.bool false)∧Hid (Jx (pre++ [x]) W')))
theorem MB (W0:World) (l Bb B n:Nat) (hBb:Bb≠B) (J Jx:List (PL W0)→World→Prop) (p:Aq) (r:AE) (x1 x2 x3 x4 x5 x6:PL W0) (hx1:x1.wh=1∧x1.v=r.req) (hx2:x2.wh=2∧x2.v=r.con) (hx3:x3.wh=1∧x3.v=r.reco) (hx4:x4.wh=3∧x4.v=r.sup) (hx5:x5.wh=1∧x5.v=r.sug) (hx6:x6.wh=3∧x6.v=r.enh)
 (hY:∀m pre x W,J pre W→pre.length<6→YieldAt Fence.wide m Tryz.prog l (Qe x) W fun e W'=>
   (e= .returned (.bool true)∧J (pre++ [x]) W'∧Kp B W0.heap.size W W')∨(e= .returned (.bool false)∧Jx (pre++ [x]) W'))
 (W:World) (hcb:Blk W Bb 29 (Ge p r)) (h0:J [] W):
 CallsIn Fence.wide n Tryz.prog 123 #[.func (.yield l) #[] #[],.pointer (some ⟨Bb,0,none⟩)] W fun e W'=>(∃v,e= .returned v)∧
  ((∃ys:List (PL W0),ys= [x1,x2,x3,x4,x5,x6]∧J ys W')∨(∃ys:List (PL W0),ys<+: [x1,x2,x3,x4,x5,x6]∧Jx ys W')):=by
 have hdd:∀k:Nat,(Fence.wide.depth.isSome=true→1≤k):=fun k h=>by cases h
 have HS:=Hd (show∀(pre:List (PL W0)) (x:PL W0) (wh:Int) (v:Value) (W:World),x.wh=wh∧x.v=v→pre.length<6→Hid (J pre W∧Blk W Bb 29 (Ge p r))→LGo l (n-1) Bb p r J Jx pre x wh v W from fun pre x wh v W hx hl h=>by
  obtain⟨rfl,rfl⟩:=hx
  obtain⟨fn,tmps,assign,body,hy,hR⟩:=hY (n-1) pre x W h.out.1 hl
  refine⟨fn,tmps,assign,body,hy,Hd (hR.mono fun e W' h2=>h2.elim (fun⟨he,hj,hk⟩=> .inl ⟨he,Hd ⟨hj,hk.kc.blk hBb h.out.2 rfl⟩⟩) (fun⟨he,hj⟩=> .inr ⟨he,Hd hj⟩))⟩)
 have HC:=Hd (show∀(pre:List (PL W0)) (W:World) (i:Nat),Hid (J pre W∧Blk W Bb 29 (Ge p r))→W.cell? ⟨Bb,i,none⟩=(Ge p r)[i]? from fun pre W i h=>h.out.2.cell i)
 have c5:W.cell? ⟨Bb,7,none⟩=some r.req:=hcb.cell 7
 have HJ0:=Hd (show J [] W∧Blk W Bb 29 (Ge p r)from⟨h0,hcb⟩)
 obtain⟨fn1,tmps1,assign1,body1,hy1,hR1⟩:=HS.out [] x1 1 r.req W hx1 (by simp) HJ0
 have HX:=Hd (show(x2.wh=2∧x2.v=r.con)∧(x3.wh=1∧x3.v=r.reco)∧(x4.wh=3∧x4.v=r.sup)∧(x5.wh=1∧x5.v=r.sug)∧(x6.wh=3∧x6.v=r.enh)from⟨hx2,hx3,hx4,hx5,hx6⟩)
 clear hY h0 hcb hx1 hx2 hx3 hx4 hx5 hx6
 refine callsIn_of_wp Tryz.func123 rfl trivial ?_ rfl
 simp only[Tryz.ntmps123,List.size_toArray,List.length_cons,List.length_nil,Nat.reduceAdd,Nat.reduceSub,Array.replicate_succ,Array.replicate_zero,List.push_toArray,List.append_toArray,List.nil_append,List.cons_append]
 gi_wp2_with fail
 (try refine⟨fun f h=>(by cases h),?_⟩)
 (try refine⟨hdd _,?_⟩)
 refine hR1.out.mono ?_
 clear hR1
 rintro e W1 (⟨rfl,HJ1⟩|⟨rfl,HX1⟩)
 rotate_left
 ·gi_wp2
  iterate 6 ((try refine⟨fun f h=>(by cases h),?_⟩);(try gi_wp2))
  go_end0
  exact⟨⟨_,rfl⟩,.inr ⟨_,⟨_,rfl⟩,HX1.out⟩⟩
 obtain⟨fn2,tmps2,assign2,body2,hy2,hR2⟩:=HS.out ([]++ [x1]) x2 2 r.con W1 HX.out.1 (by simp) HJ1
 have c8:W1.cell? ⟨Bb,8,none⟩=some r.con:=HC.out _ W1 8 HJ1
 clear hy1 c5
 gi_wp2_with fail
 (try refine⟨fun f h=>(by cases h),?_⟩)
 (try refine⟨hdd _,?_⟩)
 refine hR2.out.mono ?_
 clear hR2
 rintro e W2 (⟨rfl,HJ2⟩|⟨rfl,HX2⟩)
 rotate_left
 ·gi_wp2
  iterate 5 ((try refine⟨fun f h=>(by cases h),?_⟩);(try gi_wp2))
  go_end0
  exact⟨⟨_,rfl⟩,.inr ⟨_,⟨_,rfl⟩,HX2.out⟩⟩
 obtain⟨fn3,tmps3,assign3,body3,hy3,hR3⟩:=HS.out ([]++ [x1]++ [x2]) x3 1 r.reco W2 HX.out.2.1 (by simp) HJ2
 have c10:W2.cell? ⟨Bb,10,none⟩=some r.reco:=HC.out _ W2 10 HJ2
 clear hy2 c8
 gi_wp2_with fail
 (try refine⟨fun f h=>(by cases h),?_⟩)
 (try refine⟨hdd _,?_⟩)
 refine hR3.out.mono ?_
 clear hR3
 rintro e W3 (⟨rfl,HJ3⟩|⟨rfl,HX3⟩)
 rotate_left
 ·gi_wp2
  iterate 4 ((try refine⟨fun f h=>(by cases h),?_⟩);(try gi_wp2))
  go_end0
  exact⟨⟨_,rfl⟩,.inr ⟨_,⟨_,rfl⟩,HX3.out⟩⟩
 obtain⟨fn4,tmps4,assign4,body4,hy4,hR4⟩:=HS.out ([]++ [x1]++ [x2]++ [x3]) x4 3 r.sup W3 HX.out.2.2.1 (by simp) HJ3
 have c11:W3.cell? ⟨Bb,11,none⟩=some r.sup:=HC.out _ W3 11 HJ3
 clear hy3 c10
 gi_wp2_with fail
 (try refine⟨fun f h=>(by cases h),?_⟩)
 (try refine⟨hdd _,?_⟩)
 refine hR4.out.mono ?_
 clear hR4
 rintro e W4 (⟨rfl,HJ4⟩|⟨rfl,HX4⟩)
 rotate_left
 ·gi_wp2
  iterate 3 ((try refine⟨fun f h=>(by cases h),?_⟩);(try gi_wp2))
  go_end0
  exact⟨⟨_,rfl⟩,.inr ⟨_,⟨_,rfl⟩,HX4.out⟩⟩
 obtain⟨fn5,tmps5,assign5,body5,hy5,hR5⟩:=HS.out ([]++ [x1]++ [x2]++ [x3]++ [x4]) x5 1 r.sug W4 HX.out.2.2.2.1 (by simp) HJ4
 have c12:W4.cell? ⟨Bb,12,none⟩=some r.sug:=HC.out _ W4 12 HJ4
 clear hy4 c11
 gi_wp2_with fail
 (try refine⟨fun f h=>(by cases h),?_⟩)
 (try refine⟨hdd _,?_⟩)
 refine hR5.out.mono ?_
 clear hR5
 rintro e W5 (⟨rfl,HJ5⟩|⟨rfl,HX5⟩)
 rotate_left
 ·gi_wp2
  iterate 2 ((try refine⟨fun f h=>(by cases h),?_⟩);(try gi_wp2))
  go_end0
  exact⟨⟨_,rfl⟩,.inr ⟨_,⟨_,rfl⟩,HX5.out⟩⟩
 obtain⟨fn6,tmps6,assign6,body6,hy6,hR6⟩:=HS.out ([]++ [x1]++ [x2]++ [x3]++ [x4]++ [x5]) x6 3 r.enh W5 HX.out.2.2.2.2 (by simp) HJ5
 have c13:W5.cell? ⟨Bb,13,none⟩=some r.enh:=HC.out _ W5 13 HJ5
 clear hy5 c12
 gi_wp2_with fail
 (try refine⟨fun f h=>(by cases h),?_⟩)
 (try refine⟨hdd _,?_⟩)
 refine hR6.out.mono ?_
 clear hR6
 rintro e W6 (⟨rfl,HJ6⟩|⟨rfl,HX6⟩)
 rotate_left
 ·gi_wp2
  iterate 1 ((try refine⟨fun f h=>(by cases h),?_⟩);(try gi_wp2))
  go_end0
  exact⟨⟨_,rfl⟩,.inr ⟨_,⟨_,rfl⟩,HX6.out⟩⟩
 gi_wp2
 go_end0
 exact⟨⟨_,rfl⟩,.inl ⟨_,rfl,HJ6.out.1⟩⟩
theorem Iu (wh:Int) (r:Ac):Ay wh r=(decide ((Ab r).length≤32) && (Ab r).all fun x=>decide (CS x wh=0)):=by
 unfold Ay
 rw[BY]
 refine congrArg _ ?_
 rw[Bool.eq_iff_iff,CP,List.all_eq_true]
 constructor
 ·intro h x hx
  obtain⟨j,hj,rfl⟩:=List.mem_map.1 hx
  exact h j (by simpa using hj)
 ·intro h j hj
  exact h _ (List.mem_map.2 ⟨j,List.mem_range.2 hj,rfl⟩)
theorem Pv (W0:World) (x:Ac) (r:Value) (bw:Nat) (wh:Int) (hwh:0≤wh∧wh<256) (w:World) (hs:Au W0 x r) (hB:Below W0.heap.size W0 w) (hc:x.count≤4611686018427387904) (hW:Bc w) (hO:Ops w) (hb:Blk w bw 5 #[.int .u8 wh]):
 Calls Tryz.prog 78 #[x.val r,.pointer (some ⟨bw,0,none⟩)] w fun e w'=>e= .returned (.bool (decide (CS x wh=0)))∧Below w.heap.size w w':=by
 obtain⟨ra,rc,rfl⟩:=hs.form
 have c0:w.cell? ⟨bw,0,none⟩=some (.int .u8 wh):=hb.cell 0
 have cl:bw<w.heap.size:=hb.lt
 have hnb:=Ag w (AT x (.slice ra x.n rc))
 have HB1:=Hd hnb
 have HM:=Hd (Pj W0 x _ hs (w.alloc (AT x (.slice ra x.n rc))) (hB.trans (hnb.mono hB.size)) hc wh hwh (hW.below hnb) (hO.below hnb))
 obtain⟨m,hm⟩:∃m,m=CS x wh:=⟨_,rfl⟩
 rw[←hm]at HM ⊢
 clear hs hB hc hW hO hb hnb hm
 by_cases h0:m=0
 ·subst h0
  unfold Ac.val Be
  go_enter Tryz.func78,Tryz.ntmps78
  go_wp2_with (first
   |(go_at_call 79;(with_reducible refine HM.out.mono ?_);rintro e w2 ⟨rfl,HBc⟩;have HB2:=Hd (Aa HB1.out HBc);clear HBc)
   |fail)
  go_ret
  exact⟨rfl,HB2.out⟩
 ·have hd:(m==0)=false:=by simpa using h0
  rw[decide_eq_false h0]
  unfold Ac.val Be
  go_enter Tryz.func78,Tryz.ntmps78
  go_wp2_with (first
   |(go_at_call 79;(with_reducible refine HM.out.mono ?_);rintro e w2 ⟨rfl,HBc⟩;have HB2:=Hd (Aa HB1.out HBc);clear HBc)
   |fail)
  go_ret
  exact⟨rfl,HB2.out⟩
theorem KK (W0:World) (r:Ac) (vl:Value) (hl:LIn Aj Ai W0 (Ab r) vl) (hc:∀x∈Ab r,x.count≤4611686018427387904) (bw:Nat) (wh:Int) (hwh:0≤wh∧wh<256) (w:World) (hB:Below W0.heap.size W0 w) (hW:Bc w) (hO:Ops w) (hb:Blk w bw 5 #[.int .u8 wh]):
 Calls Tryz.prog 77 #[vl,.int .i64 32,.func (.func 78) #[] #[.pointer (some ⟨bw,0,none⟩)]] w fun e w'=>e= .returned (.bool (Ay wh r))∧Below w.heap.size w w':=by
 rw[Iu]
 exact KL W0 (Ab r) vl hl bw (fun x=>decide (CS x wh=0)) w hB fun x hx s w' hh hw'=>
  Pv W0 x s bw wh hwh w' (AZ.is hh) (hB.trans (hw'.mono hB.size)) (hc x hx) (hW.below hw') (hO.below hw') (hb.below hw' hb.lt)
theorem GA (W0:World) (l:List Ax) (vl:Value) (hl:LIn AW Ai W0 l vl) (w:World) (hB:Below W0.heap.size W0 w) (hW:Bc w) (hO:Ops w):
 Calls Tryz.prog 73 #[vl,.int .i64 32,.func (.func 74) #[] #[]] w fun e w'=>e= .returned (.bool (Eb l))∧Below w.heap.size w w':=
 KM W0 l vl hl Ca w hB fun x _ _ w' hh hw'=>GI x w' hh.1 (hW.below hw') (hO.below hw')
theorem KI (W0:World) (l:List ByteArray) (vl:Value) (hl:LIn A2 Ai W0 l vl) (w:World) (hB:Below W0.heap.size W0 w) (hW:Bc w):
 Calls Tryz.prog 75 #[vl,.int .i64 32,.func (.func 70) #[] #[]] w fun e w'=>e= .returned (.bool (C8 l))∧Below w.heap.size w w':=
 KJ W0 l vl hl BU w hB fun x _ _ w' hh hw'=>Gz x w' hh (hW.below hw')
theorem Me (a b:ByteArray) (l:List ByteArray):FL (a::b::l)=(ltB a b && FL (b::l)):=rfl
theorem DN:(l:List ByteArray)→(FL l=true↔∀i (h:i+1<l.length),ltB l[i] l[i+1]=true)
 | []=>⟨fun _ i h=>absurd h (by simp),fun _=>rfl⟩
 | [a]=>⟨fun _ i h=>absurd h (by simp),fun _=>rfl⟩
 |a::b::l=>by
  rw[Me,Bool.and_eq_true,DN (b::l)]
  constructor
  ·rintro⟨h1,h2⟩ i h
   cases i with
   |zero=>exact h1
   |succ i=>exact h2 i (by simpa using h)
  ·exact fun h=>⟨h 0 (by simp),fun i hi=>h (i+1) (by simpa using hi)⟩
def Kl (l:List ByteArray) (k:Nat):Prop:=∀i (h:i+1<l.length),i+1<k→ltB l[i] l[i+1]=true
theorem KE (p:Aq) (r:AE) (w:World) (hf:Ah Ai w p r):Calls Tryz.prog 76 #[p.val r] w fun e w'=>e= .returned (.func (.func 123) #[] #[.pointer (some ⟨w.heap.size,0,none⟩)])∧w'=w.alloc (.cells (Ge p r) 29):=by
 rcases r with ⟨r1,r2,r3,r4,r5,r6,r7,r8,r9⟩
 obtain⟨a1,q1,(rfl:r1=_)⟩:=hf.prov.form
 obtain⟨a2,q2,(rfl:r2=_)⟩:=hf.req.form
 obtain⟨a3,q3,(rfl:r3=_)⟩:=hf.con.form
 obtain⟨a4,q4,(rfl:r4=_)⟩:=hf.obs.form
 obtain⟨a5,q5,(rfl:r5=_)⟩:=hf.reco.form
 obtain⟨a6,q6,(rfl:r6=_)⟩:=hf.sup.form
 obtain⟨a7,q7,(rfl:r7=_)⟩:=hf.sug.form
 obtain⟨a8,q8,(rfl:r8=_)⟩:=hf.enh.form
 obtain⟨a9,q9,(rfl:r9=_)⟩:=hf.files.form
 clear hf
 unfold Aq.val
 go_enter Tryz.func76,Tryz.ntmps76
 go_wp2_with fail
 go_ret
 exact⟨rfl,rfl⟩
theorem Jy (W0 w1:World) (Bb B n:Nat) (hBb:Bb≠B) (p:Aq) (r:AE) (hcb:Blk w1 Bb 29 (Ge p r)) (x1 x2 x3 x4 x5 x6:PL W0) (hx1:x1.wh=1∧x1.v=r.req) (hx2:x2.wh=2∧x2.v=r.con) (hx3:x3.wh=1∧x3.v=r.reco) (hx4:x4.wh=3∧x4.v=r.sup) (hx5:x5.wh=1∧x5.v=r.sug) (hx6:x6.wh=3∧x6.v=r.enh):
 SeqStopsK Fence.wide n Tryz.prog 123 #[.pointer (some ⟨Bb,0,none⟩)] Qe (Kp B W0.heap.size) (fun ys=>ys= [x1,x2,x3,x4,x5,x6]) (fun ys=>ys<+: [x1,x2,x3,x4,x5,x6]) 6 w1:=fun l J Jx W hb _ _ hY h0=>
 MB W0 l Bb B n hBb J Jx p r x1 x2 x3 x4 x5 x6 hx1 hx2 hx3 hx4 hx5 hx6 (fun m pre x A h1 h2=>G4 rfl m (hY pre x A h1 h2)) W (hcb.below hb hcb.lt) h0
attribute [local go_sem] Oper.semAt_some
def Aq.few (p:Aq):Prop:=∀r,r=p.req∨r=p.con∨r=p.reco∨r=p.sup∨r=p.sug∨r=p.enh→∀x∈Ab r,x.count≤4611686018427387904
theorem DT {w:World} {g:Nat} {v:Value} {t:TypeId} (hb:Blk w g t #[v]):(loadVar 4 ⟨g,0,none⟩).run Tryz.prog w= .ok v w:=by
 have hc:w.cell? ⟨g,0,none⟩=some v:=hb.cell 0
 have h1:=Tryz.isAgg4
 have h2:=Tryz.sizeOf4
 simp[go_sem,loadVar,h1,h2,hc]
structure PSt (w:World) (g:Nat) (c:Array Value) (W:World):Prop where
 bl:Below w.heap.size w W
 pb:Blk W g 29 c
 rb:Blk W (g+1) 4 #[.bool false]
theorem PSt.facts {w W:World} {g:Nat} {c0 c1 c2 c3 c4 c5 c6 c7 c8 c9 c10 c11 c12 c13 c14:Value} (h:PSt w g #[c0,c1,c2,c3,c4,c5,c6,c7,c8,c9,c10,c11,c12,c13,c14] W):W.cell? ⟨g,0,none⟩=some c0∧W.cell? ⟨g,1,none⟩=some c1∧W.cell? ⟨g,2,none⟩=some c2∧W.cell? ⟨g,3,none⟩=some c3∧W.cell? ⟨g,4,none⟩=some c4∧W.cell? ⟨g,5,none⟩=some c5∧W.cell? ⟨g,6,none⟩=some c6∧W.cell? ⟨g,7,none⟩=some c7∧W.cell? ⟨g,8,none⟩=some c8∧W.cell? ⟨g,9,none⟩=some c9∧W.cell? ⟨g,10,none⟩=some c10∧W.cell? ⟨g,11,none⟩=some c11∧W.cell? ⟨g,12,none⟩=some c12∧W.cell? ⟨g,13,none⟩=some c13∧W.cell? ⟨g,14,none⟩=some c14∧g<W.heap.size∧g+1<W.heap.size∧W.cell? ⟨g+1,0,none⟩=some (.bool false)∧W.frozen? ⟨g+1,0,none⟩=false:=
 ⟨h.pb.cell 0,h.pb.cell 1,h.pb.cell 2,h.pb.cell 3,h.pb.cell 4,h.pb.cell 5,h.pb.cell 6,h.pb.cell 7,h.pb.cell 8,h.pb.cell 9,h.pb.cell 10,h.pb.cell 11,h.pb.cell 12,h.pb.cell 13,h.pb.cell 14,h.pb.lt,h.rb.lt,h.rb.cell 0,h.rb.frozen 0⟩
theorem PSt.below {w W W':World} {g:Nat} {c:Array Value} (h:PSt w g c W) (hb:Below W.heap.size W W'):PSt w g c W':=⟨BD h.bl hb,h.pb.below hb h.pb.lt,h.rb.below hb h.rb.lt⟩
theorem PSt.grown {w W W':World} {g:Nat} {c:Array Value} {row:Option Nat} {n0:Nat} (h:PSt w g c W) (hg:W.grownBy W' row) (hr:∀r,row=some r→n0≤r∧∃o:Obj,W.heap[r]?=some o∧o.isCells=false) (hn:g+2≤n0) (hw:w.heap.size≤n0):PSt w g c W':=by
 have hk:∀k,k<n0→k<W.heap.size→W'.heap[k]?=W.heap[k]?:=fun k h1 h2=>hg.block k h2 fun e=>by have:=(hr k e.symm).1;omega
 exact⟨h.bl.trans ⟨hg.os,hg.tape,hg.output,hg.size,fun k h1=>hk k (by omega) (Nat.lt_of_lt_of_le h1 h.bl.size)⟩,(hk _ (by omega) h.pb.lt).trans h.pb,(hk _ (by omega) h.rb.lt).trans h.rb⟩
theorem JB (W0:World) (p:Aq) (r:AE) (hp:Ah Ai W0 p r) (w:World) (hB:Below W0.heap.size W0 w) (hc:p.few) (hW:Bc w) (hO:Ops w):
 Calls Tryz.prog 34 #[p.val r] w fun e w'=>e= .returned (.bool (A9 p))∧Below w.heap.size w w':=by
 have hpw:∀W,Below w.heap.size w W→Ah Ai W p r:=fun W h=>hp.keep (Nat.le_trans hB.size h.size) fun b _ h2=>⟨(h.block b (Nat.lt_of_lt_of_le h2 hB.size)).trans (hB.block b h2),trivial⟩
 have hpp:=hpw w (Below.refl _ _)
 clear hp hB
 obtain⟨x1,hx1,hy1⟩:∃x:PL w,(x.wh=1∧x.v=r.req)∧x.y=p.req:=⟨⟨1,r.req,p.req,by omega,hpp.req,hc _ (by simp)⟩,⟨rfl,rfl⟩,rfl⟩
 obtain⟨x2,hx2,hy2⟩:∃x:PL w,(x.wh=2∧x.v=r.con)∧x.y=p.con:=⟨⟨2,r.con,p.con,by omega,hpp.con,hc _ (by simp)⟩,⟨rfl,rfl⟩,rfl⟩
 obtain⟨x3,hx3,hy3⟩:∃x:PL w,(x.wh=1∧x.v=r.reco)∧x.y=p.reco:=⟨⟨1,r.reco,p.reco,by omega,hpp.reco,hc _ (by simp)⟩,⟨rfl,rfl⟩,rfl⟩
 obtain⟨x4,hx4,hy4⟩:∃x:PL w,(x.wh=3∧x.v=r.sup)∧x.y=p.sup:=⟨⟨3,r.sup,p.sup,by omega,hpp.sup,hc _ (by simp)⟩,⟨rfl,rfl⟩,rfl⟩
 obtain⟨x5,hx5,hy5⟩:∃x:PL w,(x.wh=1∧x.v=r.sug)∧x.y=p.sug:=⟨⟨1,r.sug,p.sug,by omega,hpp.sug,hc _ (by simp)⟩,⟨rfl,rfl⟩,rfl⟩
 obtain⟨x6,hx6,hy6⟩:∃x:PL w,(x.wh=3∧x.v=r.enh)∧x.y=p.enh:=⟨⟨3,r.enh,p.enh,by omega,hpp.enh,hc _ (by simp)⟩,⟨rfl,rfl⟩,rfl⟩
 have HSix:=Hd (show [x1,x2,x3,x4,x5,x6].all (fun x=>Ay x.wh x.y)=(Ay 1 p.req && (Ay 2 p.con && (Ay 1 p.reco && (Ay 3 p.sup && (Ay 1 p.sug && Ay 3 p.enh))))) by
  simp only[List.all_cons,List.all_nil,Bool.and_true,hx1.1,hx2.1,hx3.1,hx4.1,hx5.1,hx6.1,hy1,hy2,hy3,hy4,hy5,hy6])
 have HST:=Hd (fun(w1:World) (Bb B n:Nat) (hBb:Bb≠B) (hcb:Blk w1 Bb 29 (Ge p r))=>Jy w w1 Bb B n hBb p r hcb x1 x2 x3 x4 x5 x6 hx1 hx2 hx3 hx4 hx5 hx6)
 have HWO:=Hd (show∀W,Below w.heap.size w W→Bc W∧Ops W from fun W h=>⟨hW.below h,hO.below h⟩)
 have HName:=Hd (show∀W,Below w.heap.size w W→Calls Tryz.prog 69 #[.string p.name] W fun e w'=>e= .returned (.bool (Ce p.name))∧Below W.heap.size W w' from fun W h=>Gq p.name W hpp.s1 (hW.below h))
 have HFile:=Hd (show∀W,Below w.heap.size w W→Calls Tryz.prog 70 #[.string p.name] W fun e w'=>e= .returned (.bool (BU p.name))∧Below W.heap.size W w' from fun W h=>Gz p.name W hpp.s1 (hW.below h))
 have HEvr:=Hd (show∀W,Below w.heap.size w W→Calls Tryz.prog 71 #[.agg #[.int .i64 p.ep,.string p.ver,.string p.rel],.bool false] W fun e w'=>e= .returned (.bool (En p.ep p.ver p.rel false))∧Below W.heap.size W w' from fun W _=>LB p.ep p.ver p.rel false W hpp.s2 hpp.s3)
 have HArch:=Hd (show∀W,Below w.heap.size w W→Calls Tryz.prog 72 #[.int .u8 p.arch] W fun e w'=>e= .returned (.string (DH p.arch))∧Below W.heap.size W w' from fun W _=>M4 p.arch W)
 have HPr:=Hd (show∀W,Below w.heap.size w W→Calls Tryz.prog 73 #[r.prov,.int .i64 32,.func (.func 74) #[] #[]] W fun e w'=>e= .returned (.bool (Eb p.prov))∧Below W.heap.size W w' from fun W h=>GA w p.prov _ hpp.prov W h (hW.below h) (hO.below h))
 have HOb:=Hd (show∀W,Below w.heap.size w W→Calls Tryz.prog 73 #[r.obs,.int .i64 32,.func (.func 74) #[] #[]] W fun e w'=>e= .returned (.bool (Eb p.obs))∧Below W.heap.size W w' from fun W h=>GA w p.obs _ hpp.obs W h (hW.below h) (hO.below h))
 have HFs:=Hd (show∀W,Below w.heap.size w W→Calls Tryz.prog 75 #[r.files,.int .i64 32,.func (.func 70) #[] #[]] W fun e w'=>e= .returned (.bool (C8 p.files))∧Below W.heap.size W w' from fun W h=>KI w p.files _ hpp.files W h (hW.below h))
 have HEv:=Hd (show∀(x:PL w) (bw:Nat) (W:World),Below w.heap.size w W→Blk W bw 5 #[.int .u8 x.wh]→Calls Tryz.prog 77 #[x.v,.int .i64 32,.func (.func 78) #[] #[.pointer (some ⟨bw,0,none⟩)]] W fun e w'=>e= .returned (.bool (Ay x.wh x.y))∧Below W.heap.size W w' from fun x bw W h hb=>KK w x.y x.v x.hl x.hc bw x.wh x.hw W h (hW.below h) (hO.below h) hb)
 have HKl:=Hd (show∀W,Below w.heap.size w W→Calls Tryz.prog 76 #[p.val r] W fun e w'=>e= .returned (.func (.func 123) #[] #[.pointer (some ⟨W.heap.size,0,none⟩)])∧w'=W.alloc (.cells (Ge p r) 29)from fun W h=>KE p r W (hpw W h))
 have HFl:=Hd hpp.files
 obtain⟨T,hT⟩:∃T,T=A9 p:=⟨_,rfl⟩
 rw[←hT]
 unfold A9 at hT
 have hal:=Ik p.arch
 obtain⟨bn,hbn⟩:∃b,b=Ce p.name:=⟨_,rfl⟩
 obtain⟨bf,hbf⟩:∃b,b=BU p.name:=⟨_,rfl⟩
 obtain⟨be,hbe⟩:∃b,b=En p.ep p.ver p.rel false:=⟨_,rfl⟩
 obtain⟨S,hS⟩:∃S,S=DH p.arch:=⟨_,rfl⟩
 obtain⟨ba,hba⟩:∃b,b=CV p.arch:=⟨_,rfl⟩
 obtain⟨bp,hbp⟩:∃b,b=Eb p.prov:=⟨_,rfl⟩
 obtain⟨bo,hbo⟩:∃b,b=Eb p.obs:=⟨_,rfl⟩
 obtain⟨bs,hbs⟩:∃b,b=C8 p.files:=⟨_,rfl⟩
 rw[←hbn,←hbf,←hbe,←hba,←hbp,←hbo,←hbs]at hT
 rw[←hbn]at HName
 rw[←hbf]at HFile
 rw[←hbe]at HEvr
 rw[←hS]at HArch hal
 rw[←hba]at hal
 rw[←hbp]at HPr
 rw[←hbo]at HOb
 rw[←hbs]at HFs
 rcases r with ⟨r1,r2,r3,r4,r5,r6,r7,r8,r9⟩
 obtain⟨a1,q1,(rfl:r1=_)⟩:=hpp.prov.form
 obtain⟨a2,q2,(rfl:r2=_)⟩:=hpp.req.form
 obtain⟨a3,q3,(rfl:r3=_)⟩:=hpp.con.form
 obtain⟨a4,q4,(rfl:r4=_)⟩:=hpp.obs.form
 obtain⟨a5,q5,(rfl:r5=_)⟩:=hpp.reco.form
 obtain⟨a6,q6,(rfl:r6=_)⟩:=hpp.sup.form
 obtain⟨a7,q7,(rfl:r7=_)⟩:=hpp.sug.form
 obtain⟨a8,q8,(rfl:r8=_)⟩:=hpp.enh.form
 obtain⟨a9,q9,(rfl:r9=_)⟩:=hpp.files.form
 clear hx1 hx2 hx3 hx4 hx5 hx6 hy1 hy2 hy3 hy4 hy5 hy6 hbn hbf hbe hba hbp hbo hbs hS hpp hpw hW hO hc
 simp only[Aq.val,Ge]at HPr HOb HFs HKl HST
 obtain⟨g,hg⟩:∃g,g=w.heap.size:=⟨_,rfl⟩
 obtain⟨w1,hw1⟩:∃w1,w1=w.alloc (.cells #[.string p.name,.int .i64 p.ep,.string p.ver,.string p.rel,.int .u8 p.arch,.string p.vendor,.slice a1 p.prov.length q1,.slice a2 (Ab p.req).length q2,.slice a3 (Ab p.con).length q3,.slice a4 p.obs.length q4,.slice a5 (Ab p.reco).length q5,.slice a6 (Ab p.sup).length q6,.slice a7 (Ab p.sug).length q7,.slice a8 (Ab p.enh).length q8,.slice a9 p.files.length q9] 29):=⟨_,rfl⟩
 obtain⟨w2,hw2⟩:∃w2,w2=w1.alloc (.cells #[.bool false] 4):=⟨_,rfl⟩
 have z1:w1.heap.size=g+1:=by rw[hw1,hg];simp
 have b1:Below w.heap.size w w1:=by rw[hw1];exact Ag _ _
 have b2:Below w1.heap.size w1 w2:=by rw[hw2];exact Ag _ _
 have k1:Blk w1 g 29 #[.string p.name,.int .i64 p.ep,.string p.ver,.string p.rel,.int .u8 p.arch,.string p.vendor,.slice a1 p.prov.length q1,.slice a2 (Ab p.req).length q2,.slice a3 (Ab p.con).length q3,.slice a4 p.obs.length q4,.slice a5 (Ab p.reco).length q5,.slice a6 (Ab p.sup).length q6,.slice a7 (Ab p.sug).length q7,.slice a8 (Ab p.enh).length q8,.slice a9 p.files.length q9]:=by rw[hw1,hg];exact Blk.new _ _ _
 have k2:Blk w2 (g+1) 4 #[.bool false]:=by rw[hw2,←z1];exact Blk.new _ _ _
 have HSt:=Hd (⟨BD b1 b2,k1.below b2 k1.lt,k2⟩:PSt w g #[.string p.name,.int .i64 p.ep,.string p.ver,.string p.rel,.int .u8 p.arch,.string p.vendor,.slice a1 p.prov.length q1,.slice a2 (Ab p.req).length q2,.slice a3 (Ab p.con).length q3,.slice a4 p.obs.length q4,.slice a5 (Ab p.reco).length q5,.slice a6 (Ab p.sup).length q6,.slice a7 (Ab p.sug).length q7,.slice a8 (Ab p.enh).length q8,.slice a9 p.files.length q9] w2)
 have hwg:w.heap.size≤g+1:=by rw[hg];omega
 have HBs:=Hd (show∀(W:World) (v:Value),PSt w g #[.string p.name,.int .i64 p.ep,.string p.ver,.string p.rel,.int .u8 p.arch,.string p.vendor,.slice a1 p.prov.length q1,.slice a2 (Ab p.req).length q2,.slice a3 (Ab p.con).length q3,.slice a4 p.obs.length q4,.slice a5 (Ab p.reco).length q5,.slice a6 (Ab p.sup).length q6,.slice a7 (Ab p.sug).length q7,.slice a8 (Ab p.enh).length q8,.slice a9 p.files.length q9] W→Below w.heap.size w (W.setCell ⟨g+1,0,none⟩ v)from fun W v h=>h.bl.setCell (p:=⟨g+1,0,none⟩) hwg v)
 clear b1 b2 k1 k2 z1
 obtain⟨d0,d1,d2,d3,d4,d5,d6,d7,d8,d9,d10,d11,d12,d13,d14,dl,ul,u0,f0⟩:=HSt.out.facts
 refine(callsIn_wide (n:=5)).1 ?_
 refine callsIn_of_wp_marks Tryz.func34 rfl trivial ?_ rfl
 simp only[Tryz.ntmps34,List.size_toArray,List.length_cons,List.length_nil,Nat.reduceAdd,Nat.reduceSub,Array.replicate_succ,Array.replicate_zero,List.push_toArray,List.append_toArray,List.nil_append,List.cons_append]
 unfold Aq.val
 refine wpIn_wide.2 ?_
 go_upto_region 1 with fail
 rw[←hw1,←hg,←hw2]
 have HG:=Hd hg
 clear hw1 hw2 hg
 cases bn with
 |false=>
  obtain rfl:T=false:=by rw[hT];simp
  clear hT
  go_wp2_with (first
   |(go_at_call 69;(with_reducible refine(HName.out _ HSt.out.bl).mono ?_);rintro e wx ⟨rfl,HBc⟩;have HSt:=Hd (HSt.out.below HBc);clear HBc d0 d1 d2 d3 d4 d5 d6 d7 d8 d9 d10 d11 d12 d13 d14 dl ul u0 f0;obtain⟨d0,d1,d2,d3,d4,d5,d6,d7,d8,d9,d10,d11,d12,d13,d14,dl,ul,u0,f0⟩:=HSt.out.facts)
   |fail)
  exact⟨_,Av rfl _ _ (g+1) (.bool false) rfl (DT (HSt.out.rb.set_ 0 _)),rfl,HBs.out _ _ HSt.out⟩
 |true=>
  cases bf with
  |true=>
   obtain rfl:T=false:=by rw[hT];simp
   clear hT
   go_wp2_with (first
    |(go_at_call 69;(with_reducible refine(HName.out _ HSt.out.bl).mono ?_);rintro e wx ⟨rfl,HBc⟩;have HSt:=Hd (HSt.out.below HBc);clear HBc d0 d1 d2 d3 d4 d5 d6 d7 d8 d9 d10 d11 d12 d13 d14 dl ul u0 f0;obtain⟨d0,d1,d2,d3,d4,d5,d6,d7,d8,d9,d10,d11,d12,d13,d14,dl,ul,u0,f0⟩:=HSt.out.facts)
    |(go_at_call 70;(with_reducible refine(HFile.out _ HSt.out.bl).mono ?_);rintro e wx ⟨rfl,HBc⟩;have HSt:=Hd (HSt.out.below HBc);clear HBc d0 d1 d2 d3 d4 d5 d6 d7 d8 d9 d10 d11 d12 d13 d14 dl ul u0 f0;obtain⟨d0,d1,d2,d3,d4,d5,d6,d7,d8,d9,d10,d11,d12,d13,d14,dl,ul,u0,f0⟩:=HSt.out.facts)
    |fail)
   exact⟨_,Av rfl _ _ (g+1) (.bool false) rfl (DT (HSt.out.rb.set_ 0 _)),rfl,HBs.out _ _ HSt.out⟩
  |false=>
   cases be with
   |false=>
    obtain rfl:T=false:=by rw[hT];simp
    clear hT
    go_wp2_with (first
     |(go_at_call 69;(with_reducible refine(HName.out _ HSt.out.bl).mono ?_);rintro e wx ⟨rfl,HBc⟩;have HSt:=Hd (HSt.out.below HBc);clear HBc d0 d1 d2 d3 d4 d5 d6 d7 d8 d9 d10 d11 d12 d13 d14 dl ul u0 f0;obtain⟨d0,d1,d2,d3,d4,d5,d6,d7,d8,d9,d10,d11,d12,d13,d14,dl,ul,u0,f0⟩:=HSt.out.facts)
     |(go_at_call 70;(with_reducible refine(HFile.out _ HSt.out.bl).mono ?_);rintro e wx ⟨rfl,HBc⟩;have HSt:=Hd (HSt.out.below HBc);clear HBc d0 d1 d2 d3 d4 d5 d6 d7 d8 d9 d10 d11 d12 d13 d14 dl ul u0 f0;obtain⟨d0,d1,d2,d3,d4,d5,d6,d7,d8,d9,d10,d11,d12,d13,d14,dl,ul,u0,f0⟩:=HSt.out.facts)
     |(go_at_call 71;(with_reducible refine(HEvr.out _ HSt.out.bl).mono ?_);rintro e wx ⟨rfl,HBc⟩;have HSt:=Hd (HSt.out.below HBc);clear HBc d0 d1 d2 d3 d4 d5 d6 d7 d8 d9 d10 d11 d12 d13 d14 dl ul u0 f0;obtain⟨d0,d1,d2,d3,d4,d5,d6,d7,d8,d9,d10,d11,d12,d13,d14,dl,ul,u0,f0⟩:=HSt.out.facts)
     |fail)
    exact⟨_,Av rfl _ _ (g+1) (.bool false) rfl (DT (HSt.out.rb.set_ 0 _)),rfl,HBs.out _ _ HSt.out⟩
   |true=>
    cases ba with
    |false=>
     have hS0:S.toList.isEmpty=true:=hal
     have hS1:S.toList= []:=List.isEmpty_iff.1 hS0
     clear hal hS0
     obtain rfl:T=false:=by rw[hT];simp
     clear hT
     go_wp2_with (first
      |(go_at_call 69;(with_reducible refine(HName.out _ HSt.out.bl).mono ?_);rintro e wx ⟨rfl,HBc⟩;have HSt:=Hd (HSt.out.below HBc);clear HBc d0 d1 d2 d3 d4 d5 d6 d7 d8 d9 d10 d11 d12 d13 d14 dl ul u0 f0;obtain⟨d0,d1,d2,d3,d4,d5,d6,d7,d8,d9,d10,d11,d12,d13,d14,dl,ul,u0,f0⟩:=HSt.out.facts)
      |(go_at_call 70;(with_reducible refine(HFile.out _ HSt.out.bl).mono ?_);rintro e wx ⟨rfl,HBc⟩;have HSt:=Hd (HSt.out.below HBc);clear HBc d0 d1 d2 d3 d4 d5 d6 d7 d8 d9 d10 d11 d12 d13 d14 dl ul u0 f0;obtain⟨d0,d1,d2,d3,d4,d5,d6,d7,d8,d9,d10,d11,d12,d13,d14,dl,ul,u0,f0⟩:=HSt.out.facts)
      |(go_at_call 71;(with_reducible refine(HEvr.out _ HSt.out.bl).mono ?_);rintro e wx ⟨rfl,HBc⟩;have HSt:=Hd (HSt.out.below HBc);clear HBc d0 d1 d2 d3 d4 d5 d6 d7 d8 d9 d10 d11 d12 d13 d14 dl ul u0 f0;obtain⟨d0,d1,d2,d3,d4,d5,d6,d7,d8,d9,d10,d11,d12,d13,d14,dl,ul,u0,f0⟩:=HSt.out.facts)
      |(go_at_call 72;(with_reducible refine(HArch.out _ HSt.out.bl).mono ?_);rintro e wx ⟨rfl,HBc⟩;have HSt:=Hd (HSt.out.below HBc);clear HBc d0 d1 d2 d3 d4 d5 d6 d7 d8 d9 d10 d11 d12 d13 d14 dl ul u0 f0;obtain⟨d0,d1,d2,d3,d4,d5,d6,d7,d8,d9,d10,d11,d12,d13,d14,dl,ul,u0,f0⟩:=HSt.out.facts)
      |fail)
     exact⟨_,Av rfl _ _ (g+1) (.bool false) rfl (DT (HSt.out.rb.set_ 0 _)),rfl,HBs.out _ _ HSt.out⟩
    |true=>
     have hS0:S.toList.isEmpty=false:=hal
     have hS1:¬S.toList= []:=fun e=>by rw[e]at hS0;cases hS0
     clear hal
     by_cases hv:p.vendor.size≤64
     rotate_left
     ·have hv1:decide ((64:Int)<(p.vendor.size:Int))=true:=by rw[decide_eq_true];omega
      have hv2:(64:Int)<(p.vendor.size:Int):=by omega
      rw[decide_eq_false hv]at hT
      clear hv
      obtain rfl:T=false:=by rw[hT];simp
      clear hT
      go_wp2_with (first
       |(go_at_call 69;(with_reducible refine(HName.out _ HSt.out.bl).mono ?_);rintro e wx ⟨rfl,HBc⟩;have HSt:=Hd (HSt.out.below HBc);clear HBc d0 d1 d2 d3 d4 d5 d6 d7 d8 d9 d10 d11 d12 d13 d14 dl ul u0 f0;obtain⟨d0,d1,d2,d3,d4,d5,d6,d7,d8,d9,d10,d11,d12,d13,d14,dl,ul,u0,f0⟩:=HSt.out.facts)
       |(go_at_call 70;(with_reducible refine(HFile.out _ HSt.out.bl).mono ?_);rintro e wx ⟨rfl,HBc⟩;have HSt:=Hd (HSt.out.below HBc);clear HBc d0 d1 d2 d3 d4 d5 d6 d7 d8 d9 d10 d11 d12 d13 d14 dl ul u0 f0;obtain⟨d0,d1,d2,d3,d4,d5,d6,d7,d8,d9,d10,d11,d12,d13,d14,dl,ul,u0,f0⟩:=HSt.out.facts)
       |(go_at_call 71;(with_reducible refine(HEvr.out _ HSt.out.bl).mono ?_);rintro e wx ⟨rfl,HBc⟩;have HSt:=Hd (HSt.out.below HBc);clear HBc d0 d1 d2 d3 d4 d5 d6 d7 d8 d9 d10 d11 d12 d13 d14 dl ul u0 f0;obtain⟨d0,d1,d2,d3,d4,d5,d6,d7,d8,d9,d10,d11,d12,d13,d14,dl,ul,u0,f0⟩:=HSt.out.facts)
       |(go_at_call 72;(with_reducible refine(HArch.out _ HSt.out.bl).mono ?_);rintro e wx ⟨rfl,HBc⟩;have HSt:=Hd (HSt.out.below HBc);clear HBc d0 d1 d2 d3 d4 d5 d6 d7 d8 d9 d10 d11 d12 d13 d14 dl ul u0 f0;obtain⟨d0,d1,d2,d3,d4,d5,d6,d7,d8,d9,d10,d11,d12,d13,d14,dl,ul,u0,f0⟩:=HSt.out.facts)
       |fail)
      exact⟨_,Av rfl _ _ (g+1) (.bool false) rfl (DT (HSt.out.rb.set_ 0 _)),rfl,HBs.out _ _ HSt.out⟩
     have hv1:decide ((64:Int)<(p.vendor.size:Int))=false:=by rw[decide_eq_false];omega
     have hv2:(p.vendor.size:Int)≤64:=by omega
     rw[decide_eq_true hv]at hT
     clear hv
     cases bp with
     |false=>
      obtain rfl:T=false:=by rw[hT];simp
      clear hT
      go_wp2_with (first
       |(go_at_call 69;(with_reducible refine(HName.out _ HSt.out.bl).mono ?_);rintro e wx ⟨rfl,HBc⟩;have HSt:=Hd (HSt.out.below HBc);clear HBc d0 d1 d2 d3 d4 d5 d6 d7 d8 d9 d10 d11 d12 d13 d14 dl ul u0 f0;obtain⟨d0,d1,d2,d3,d4,d5,d6,d7,d8,d9,d10,d11,d12,d13,d14,dl,ul,u0,f0⟩:=HSt.out.facts)
       |(go_at_call 70;(with_reducible refine(HFile.out _ HSt.out.bl).mono ?_);rintro e wx ⟨rfl,HBc⟩;have HSt:=Hd (HSt.out.below HBc);clear HBc d0 d1 d2 d3 d4 d5 d6 d7 d8 d9 d10 d11 d12 d13 d14 dl ul u0 f0;obtain⟨d0,d1,d2,d3,d4,d5,d6,d7,d8,d9,d10,d11,d12,d13,d14,dl,ul,u0,f0⟩:=HSt.out.facts)
       |(go_at_call 71;(with_reducible refine(HEvr.out _ HSt.out.bl).mono ?_);rintro e wx ⟨rfl,HBc⟩;have HSt:=Hd (HSt.out.below HBc);clear HBc d0 d1 d2 d3 d4 d5 d6 d7 d8 d9 d10 d11 d12 d13 d14 dl ul u0 f0;obtain⟨d0,d1,d2,d3,d4,d5,d6,d7,d8,d9,d10,d11,d12,d13,d14,dl,ul,u0,f0⟩:=HSt.out.facts)
       |(go_at_call 72;(with_reducible refine(HArch.out _ HSt.out.bl).mono ?_);rintro e wx ⟨rfl,HBc⟩;have HSt:=Hd (HSt.out.below HBc);clear HBc d0 d1 d2 d3 d4 d5 d6 d7 d8 d9 d10 d11 d12 d13 d14 dl ul u0 f0;obtain⟨d0,d1,d2,d3,d4,d5,d6,d7,d8,d9,d10,d11,d12,d13,d14,dl,ul,u0,f0⟩:=HSt.out.facts)
       |(go_at_call 73;(first|(with_reducible refine(HPr.out _ HSt.out.bl).mono ?_)|(with_reducible refine(HOb.out _ HSt.out.bl).mono ?_));rintro e wx ⟨rfl,HBc⟩;have HSt:=Hd (HSt.out.below HBc);clear HBc d0 d1 d2 d3 d4 d5 d6 d7 d8 d9 d10 d11 d12 d13 d14 dl ul u0 f0;obtain⟨d0,d1,d2,d3,d4,d5,d6,d7,d8,d9,d10,d11,d12,d13,d14,dl,ul,u0,f0⟩:=HSt.out.facts)
       |fail)
      exact⟨_,Av rfl _ _ (g+1) (.bool false) rfl (DT (HSt.out.rb.set_ 0 _)),rfl,HBs.out _ _ HSt.out⟩
     |true=>
      cases bo with
      |false=>
       obtain rfl:T=false:=by rw[hT];simp
       clear hT
       go_wp2_with (first
        |(go_at_call 69;(with_reducible refine(HName.out _ HSt.out.bl).mono ?_);rintro e wx ⟨rfl,HBc⟩;have HSt:=Hd (HSt.out.below HBc);clear HBc d0 d1 d2 d3 d4 d5 d6 d7 d8 d9 d10 d11 d12 d13 d14 dl ul u0 f0;obtain⟨d0,d1,d2,d3,d4,d5,d6,d7,d8,d9,d10,d11,d12,d13,d14,dl,ul,u0,f0⟩:=HSt.out.facts)
        |(go_at_call 70;(with_reducible refine(HFile.out _ HSt.out.bl).mono ?_);rintro e wx ⟨rfl,HBc⟩;have HSt:=Hd (HSt.out.below HBc);clear HBc d0 d1 d2 d3 d4 d5 d6 d7 d8 d9 d10 d11 d12 d13 d14 dl ul u0 f0;obtain⟨d0,d1,d2,d3,d4,d5,d6,d7,d8,d9,d10,d11,d12,d13,d14,dl,ul,u0,f0⟩:=HSt.out.facts)
        |(go_at_call 71;(with_reducible refine(HEvr.out _ HSt.out.bl).mono ?_);rintro e wx ⟨rfl,HBc⟩;have HSt:=Hd (HSt.out.below HBc);clear HBc d0 d1 d2 d3 d4 d5 d6 d7 d8 d9 d10 d11 d12 d13 d14 dl ul u0 f0;obtain⟨d0,d1,d2,d3,d4,d5,d6,d7,d8,d9,d10,d11,d12,d13,d14,dl,ul,u0,f0⟩:=HSt.out.facts)
        |(go_at_call 72;(with_reducible refine(HArch.out _ HSt.out.bl).mono ?_);rintro e wx ⟨rfl,HBc⟩;have HSt:=Hd (HSt.out.below HBc);clear HBc d0 d1 d2 d3 d4 d5 d6 d7 d8 d9 d10 d11 d12 d13 d14 dl ul u0 f0;obtain⟨d0,d1,d2,d3,d4,d5,d6,d7,d8,d9,d10,d11,d12,d13,d14,dl,ul,u0,f0⟩:=HSt.out.facts)
        |(go_at_call 73;(first|(with_reducible refine(HPr.out _ HSt.out.bl).mono ?_)|(with_reducible refine(HOb.out _ HSt.out.bl).mono ?_));rintro e wx ⟨rfl,HBc⟩;have HSt:=Hd (HSt.out.below HBc);clear HBc d0 d1 d2 d3 d4 d5 d6 d7 d8 d9 d10 d11 d12 d13 d14 dl ul u0 f0;obtain⟨d0,d1,d2,d3,d4,d5,d6,d7,d8,d9,d10,d11,d12,d13,d14,dl,ul,u0,f0⟩:=HSt.out.facts)
        |fail)
       exact⟨_,Av rfl _ _ (g+1) (.bool false) rfl (DT (HSt.out.rb.set_ 0 _)),rfl,HBs.out _ _ HSt.out⟩
      |true=>
       cases bs with
       |false=>
        obtain rfl:T=false:=by rw[hT];simp
        clear hT
        go_wp2_with (first
         |(go_at_call 69;(with_reducible refine(HName.out _ HSt.out.bl).mono ?_);rintro e wx ⟨rfl,HBc⟩;have HSt:=Hd (HSt.out.below HBc);clear HBc d0 d1 d2 d3 d4 d5 d6 d7 d8 d9 d10 d11 d12 d13 d14 dl ul u0 f0;obtain⟨d0,d1,d2,d3,d4,d5,d6,d7,d8,d9,d10,d11,d12,d13,d14,dl,ul,u0,f0⟩:=HSt.out.facts)
         |(go_at_call 70;(with_reducible refine(HFile.out _ HSt.out.bl).mono ?_);rintro e wx ⟨rfl,HBc⟩;have HSt:=Hd (HSt.out.below HBc);clear HBc d0 d1 d2 d3 d4 d5 d6 d7 d8 d9 d10 d11 d12 d13 d14 dl ul u0 f0;obtain⟨d0,d1,d2,d3,d4,d5,d6,d7,d8,d9,d10,d11,d12,d13,d14,dl,ul,u0,f0⟩:=HSt.out.facts)
         |(go_at_call 71;(with_reducible refine(HEvr.out _ HSt.out.bl).mono ?_);rintro e wx ⟨rfl,HBc⟩;have HSt:=Hd (HSt.out.below HBc);clear HBc d0 d1 d2 d3 d4 d5 d6 d7 d8 d9 d10 d11 d12 d13 d14 dl ul u0 f0;obtain⟨d0,d1,d2,d3,d4,d5,d6,d7,d8,d9,d10,d11,d12,d13,d14,dl,ul,u0,f0⟩:=HSt.out.facts)
         |(go_at_call 72;(with_reducible refine(HArch.out _ HSt.out.bl).mono ?_);rintro e wx ⟨rfl,HBc⟩;have HSt:=Hd (HSt.out.below HBc);clear HBc d0 d1 d2 d3 d4 d5 d6 d7 d8 d9 d10 d11 d12 d13 d14 dl ul u0 f0;obtain⟨d0,d1,d2,d3,d4,d5,d6,d7,d8,d9,d10,d11,d12,d13,d14,dl,ul,u0,f0⟩:=HSt.out.facts)
         |(go_at_call 73;(first|(with_reducible refine(HPr.out _ HSt.out.bl).mono ?_)|(with_reducible refine(HOb.out _ HSt.out.bl).mono ?_));rintro e wx ⟨rfl,HBc⟩;have HSt:=Hd (HSt.out.below HBc);clear HBc d0 d1 d2 d3 d4 d5 d6 d7 d8 d9 d10 d11 d12 d13 d14 dl ul u0 f0;obtain⟨d0,d1,d2,d3,d4,d5,d6,d7,d8,d9,d10,d11,d12,d13,d14,dl,ul,u0,f0⟩:=HSt.out.facts)
         |(go_at_call 75;(with_reducible refine(HFs.out _ HSt.out.bl).mono ?_);rintro e wx ⟨rfl,HBc⟩;have HSt:=Hd (HSt.out.below HBc);clear HBc d0 d1 d2 d3 d4 d5 d6 d7 d8 d9 d10 d11 d12 d13 d14 dl ul u0 f0;obtain⟨d0,d1,d2,d3,d4,d5,d6,d7,d8,d9,d10,d11,d12,d13,d14,dl,ul,u0,f0⟩:=HSt.out.facts)
         |fail)
        exact⟨_,Av rfl _ _ (g+1) (.bool false) rfl (DT (HSt.out.rb.set_ 0 _)),rfl,HBs.out _ _ HSt.out⟩
       |true=>
        simp only[Bool.true_and,Bool.not_false]at hT
        have HT:=Hd hT
        clear hT
        have hnf:p.files.length≤4611686018427387904:=HFl.out.bound
        have HK0:=Hd (show Kl p.files 0 from fun i _ h=>absurd h (by omega))
        go_wp2_with (first
         |(go_at_call 69;(with_reducible refine(HName.out _ HSt.out.bl).mono ?_);rintro e wx ⟨rfl,HBc⟩;have HSt:=Hd (HSt.out.below HBc);clear HBc d0 d1 d2 d3 d4 d5 d6 d7 d8 d9 d10 d11 d12 d13 d14 dl ul u0 f0;obtain⟨d0,d1,d2,d3,d4,d5,d6,d7,d8,d9,d10,d11,d12,d13,d14,dl,ul,u0,f0⟩:=HSt.out.facts)
         |(go_at_call 70;(with_reducible refine(HFile.out _ HSt.out.bl).mono ?_);rintro e wx ⟨rfl,HBc⟩;have HSt:=Hd (HSt.out.below HBc);clear HBc d0 d1 d2 d3 d4 d5 d6 d7 d8 d9 d10 d11 d12 d13 d14 dl ul u0 f0;obtain⟨d0,d1,d2,d3,d4,d5,d6,d7,d8,d9,d10,d11,d12,d13,d14,dl,ul,u0,f0⟩:=HSt.out.facts)
         |(go_at_call 71;(with_reducible refine(HEvr.out _ HSt.out.bl).mono ?_);rintro e wx ⟨rfl,HBc⟩;have HSt:=Hd (HSt.out.below HBc);clear HBc d0 d1 d2 d3 d4 d5 d6 d7 d8 d9 d10 d11 d12 d13 d14 dl ul u0 f0;obtain⟨d0,d1,d2,d3,d4,d5,d6,d7,d8,d9,d10,d11,d12,d13,d14,dl,ul,u0,f0⟩:=HSt.out.facts)
         |(go_at_call 72;(with_reducible refine(HArch.out _ HSt.out.bl).mono ?_);rintro e wx ⟨rfl,HBc⟩;have HSt:=Hd (HSt.out.below HBc);clear HBc d0 d1 d2 d3 d4 d5 d6 d7 d8 d9 d10 d11 d12 d13 d14 dl ul u0 f0;obtain⟨d0,d1,d2,d3,d4,d5,d6,d7,d8,d9,d10,d11,d12,d13,d14,dl,ul,u0,f0⟩:=HSt.out.facts)
         |(go_at_call 73;(first|(with_reducible refine(HPr.out _ HSt.out.bl).mono ?_)|(with_reducible refine(HOb.out _ HSt.out.bl).mono ?_));rintro e wx ⟨rfl,HBc⟩;have HSt:=Hd (HSt.out.below HBc);clear HBc d0 d1 d2 d3 d4 d5 d6 d7 d8 d9 d10 d11 d12 d13 d14 dl ul u0 f0;obtain⟨d0,d1,d2,d3,d4,d5,d6,d7,d8,d9,d10,d11,d12,d13,d14,dl,ul,u0,f0⟩:=HSt.out.facts)
         |(go_at_call 75;(with_reducible refine(HFs.out _ HSt.out.bl).mono ?_);rintro e wx ⟨rfl,HBc⟩;have HSt:=Hd (HSt.out.below HBc);clear HBc d0 d1 d2 d3 d4 d5 d6 d7 d8 d9 d10 d11 d12 d13 d14 dl ul u0 f0;obtain⟨d0,d1,d2,d3,d4,d5,d6,d7,d8,d9,d10,d11,d12,d13,d14,dl,ul,u0,f0⟩:=HSt.out.facts)
         |fail)
        clear hS0 hS1 hv1 hv2
        go_loopw [3,4,54] (fun y z i wr=>∃k:Nat,k≤p.files.length∧i= .int .i64 k∧Hid (Kl p.files k∧PSt w g #[.string p.name,.int .i64 p.ep,.string p.ver,.string p.rel,.int .u8 p.arch,.string p.vendor,.slice a1 p.prov.length q1,.slice a2 (Ab p.req).length q2,.slice a3 (Ab p.con).length q3,.slice a4 p.obs.length q4,.slice a5 (Ab p.reco).length q5,.slice a6 (Ab p.sup).length q6,.slice a7 (Ab p.sug).length q7,.slice a8 (Ab p.enh).length q8,.slice a9 p.files.length q9] wr)) (fun y z i wr=>p.files.length-(intOf i).toNat)
        case atStart=>exact⟨0,by omega,rfl,Hd ⟨HK0.out,HSt.out⟩⟩
        case round=>
         obtain⟨k,hk,rfl,HQ⟩:=hrel
         have HSt:=Hd HQ.out.2
         obtain⟨d0,d1,d2,d3,d4,d5,d6,d7,d8,d9,d10,d11,d12,d13,d14,dl,ul,u0,f0⟩:=HSt.out.facts
         by_cases hlt:k<p.files.length
         ·have hki:(k:Int)<(p.files.length:Int):=by omega
          obtain⟨b,o,_,ha,_,hcs0,_⟩:=HFl.out.at_ k hlt
          have hcs:=hcs0.same (HSt.out.bl.block b hcs0.1) HSt.out.bl.size
          obtain⟨xk,hxk⟩:∃x,x=p.files[k]:=⟨_,rfl⟩
          rw[←hxk]at hcs
          dsimp only[A2]at hcs
          rw[Nat.mul_one]at hcs
          have ek:wr.cell? ⟨b,o+k,none⟩=some (.string xk):=hcs.2 0 (show 0<1 by omega)
          have eb:b<wr.heap.size:=hcs.1
          by_cases h0:0<k
          ·obtain⟨m,hm⟩:∃m,k=m+1:=⟨k-1,by omega⟩
           have hml:m<p.files.length:=by omega
           obtain⟨b',o',_,ha',_,hcs0',_⟩:=HFl.out.at_ m hml
           have hbo:b'=b∧o'=o:=by
            rw[ha]at ha'
            injection ha' with ha'
            injection ha' with e1 e2
            exact⟨e1.symm,e2.symm⟩
           obtain⟨rfl,rfl⟩:=hbo
           have hcs':=hcs0'.same (HSt.out.bl.block _ hcs0'.1) HSt.out.bl.size
           obtain⟨xm,hxm⟩:∃x,x=p.files[m]:=⟨_,rfl⟩
           rw[←hxm]at hcs'
           dsimp only[A2]at hcs'
           rw[Nat.mul_one]at hcs'
           have em:wr.cell? ⟨b',o'+m,none⟩=some (.string xm):=hcs'.2 0 (show 0<1 by omega)
           subst ha
           have h0i:(0:Int)<(k:Int):=by omega
           have h0d:decide (0<k)=true:=by simpa using h0
           have hm1:(k:Int)-1=(m:Int):=by omega
           have hm2:IntKind.i64.wrap ((k:Int)-1)=(m:Int):=by rw[IntKind.wrap_i64];omega
           have hmi:(m:Int)<(p.files.length:Int):=by omega
           have HMK:=Hd hm
           have HL1:=Hd (show ltB xm xk=true→Kl p.files (k+1)from fun h i hi h2=>by
            by_cases e:i+1=k
            ·obtain rfl:i=m:=by omega
             have e2:p.files[i+1]=xk:=by rw[hxk];congr 1
             rw[e2,←hxm];exact h
            ·exact HQ.out.1 i hi (by omega))
           have HL2:=Hd (show ltB xm xk=false→T=false from fun h=>by
            have hr:FL p.files=false:=by
             cases hr:FL p.files with
             |false=>rfl
             |true=>
              have:=(DN _).1 hr m (by omega)
              have e2:p.files[m+1]'(by omega)=xk:=by rw[hxk];congr 1;omega
              rw[e2,←hxm,h]at this
              cases this
            rw[HT.out,hr];simp)
           clear hcs hcs' hcs0 hcs0' hxk hxm ha' hm h0
           cases hl:ltB xm xk with
           |true=>
            have HL:=Hd (HL1.out hl)
            have hlb:Op.bytesLess xm.toList xk.toList=true:=hl
            clear hl hm1
            go_wp2_with fail
            go_roundw
            case rel=>exact⟨k+1,by omega,by go_num,Hd ⟨HL.out,HSt.out⟩⟩
            case measure=>simp[intOf];omega
           |false=>
            have HTf:=Hd (HL2.out hl)
            have hlb:Op.bytesLess xm.toList xk.toList=false:=hl
            clear hl hm1
            go_wp2_with fail
            exact⟨_,Av rfl _ _ (g+1) (.bool false) rfl (DT (HSt.out.rb.set_ 0 _)),Af HTf.out.symm,HBs.out _ _ HSt.out⟩
          ·obtain rfl:k=0:=by omega
           subst ha
           have HL:=Hd (show Kl p.files 1 from fun i _ h2=>absurd h2 (by omega))
           have ek0:wr.cell? ⟨b,o,none⟩=some (.string xk):=ek
           have l0:(0:Int)<(p.files.length:Int):=hki
           clear hcs hcs0 hxk h0 ek hki
           go_wp2_with fail
           go_roundw
           case rel=>exact⟨1,by omega,by go_num,Hd ⟨HL.out,HSt.out⟩⟩
           case measure=>simp[intOf];omega
         ·obtain rfl:k=p.files.length:=by omega
          have HRow:=Hd (show FL p.files=true from(DN _).2 fun i hi=>HQ.out.1 i hi hi)
          go_wp2_with (first
           |(go_at_call 76;(with_reducible refine(HKl.out _ HSt.out.bl).mono ?_);rintro e w6 ⟨rfl,hw6⟩;have HW6:=Hd hw6;clear hw6)
           |fail)
          have hw6:=HW6.out
          have hb56:Below wr.heap.size wr w6:=by rw[hw6];exact Ag _ _
          have hz6:w6.heap.size=wr.heap.size+1:=by rw[hw6];simp
          have hrb:Blk w6 wr.heap.size 29 #[.string p.name,.int .i64 p.ep,.string p.ver,.string p.rel,.int .u8 p.arch,.string p.vendor,.slice a1 p.prov.length q1,.slice a2 (Ab p.req).length q2,.slice a3 (Ab p.con).length q3,.slice a4 p.obs.length q4,.slice a5 (Ab p.reco).length q5,.slice a6 (Ab p.sup).length q6,.slice a7 (Ab p.sug).length q7,.slice a8 (Ab p.enh).length q8,.slice a9 p.files.length q9]:=by rw[hw6];exact Blk.new _ _ _
          have h5g:g+1<wr.heap.size:=HSt.out.rb.lt
          have h5w:w.heap.size≤wr.heap.size:=HSt.out.bl.size
          have HM6:=Hd (HSt.out.below hb56)
          have HSQ:=Hd (HST.out w6 wr.heap.size (g+1) 4 (by omega) hrb)
          clear hrb hw6 hb56 d0 d1 d2 d3 d4 d5 d6 d7 d8 d9 d10 d11 d12 d13 d14 dl ul u0 f0
          refine IZ ?_
          intro a0 ha0
          refine wpIn_wide.1 (wpIn_rangeFunc_ownH (F:=Fence.wide) (n:=5) rfl (by omega) (gf:=123) (lb:= #[.pointer (some ⟨wr.heap.size,0,none⟩)]) (by rw[ha0];rfl) trivial (enters_of Tryz.func123 (by kernel_rfl) rfl) HSQ.out Kp.t (Kp.b (by omega)) (Below.refl _ _) (fun _=>rfl)
           (fun pre W=>PSt w g #[.string p.name,.int .i64 p.ep,.string p.ver,.string p.rel,.int .u8 p.arch,.string p.vendor,.slice a1 p.prov.length q1,.slice a2 (Ab p.req).length q2,.slice a3 (Ab p.con).length q3,.slice a4 p.obs.length q4,.slice a5 (Ab p.reco).length q5,.slice a6 (Ab p.sup).length q6,.slice a7 (Ab p.sug).length q7,.slice a8 (Ab p.enh).length q8,.slice a9 p.files.length q9] W∧pre.all (fun x=>Ay x.wh x.y)=true)
           (fun cd pre W=>cd= .ret∧Below w.heap.size w W∧Blk W (g+1) 4 #[.bool false]∧pre.all (fun x=>Ay x.wh x.y)=false)
           (fun s A B row hs hg' hr=>⟨hs.1.grown hg' hr (by omega) (by omega),hs.2⟩)
           (fun cd s A B row hs hg' hr=>⟨hs.1,hs.2.1.trans ⟨hg'.os,hg'.tape,hg'.output,hg'.size,fun k h1=>hg'.block k (Nat.lt_of_lt_of_le h1 hs.2.1.size) (fun e=>by have:=(hr k e.symm).1;omega)⟩,DY hs.2.2.1 hg' hr,hs.2.2.2⟩)
           ⟨HM6.out,rfl⟩
           (fun x a' W=>∃Bx,g+1<Bx∧Blk W Bx 5 #[.int .u8 x.wh]∧a'={tmps:=(((a0.tmps.setIfInBounds 74 (.int .u8 x.wh)).setIfInBounds 75 x.v).setIfInBounds 5 (.pointer (some ⟨Bx,0,none⟩))).setIfInBounds 6 x.v,defers:= []})
           (fun x a' s A B row hs hg' hr=>by
             obtain⟨Bx,h1,h2,h3⟩:=hs
             exact⟨Bx,h1,DY h2 hg' hr,h3⟩) ?assign ?body ?done ?stop)
          case assign=>
           rintro l pre x W K ⟨hm,hp⟩ hK
           subst ha0
           have HKK:=Hd hK
           have HMW:=Hd hm
           clear hK hm
           gi_wp2
           refine HKK.out _ _ ((KeepsOthers.alloc _ _).from _) (Kp.of_below HMW.out.bl.size (AL W (.cells #[.int .u8 x.wh] 5))) ⟨HMW.out.below (AL W (.cells #[.int .u8 x.wh] 5)),hp⟩ ⟨W.heap.size,HMW.out.rb.lt,Blk.new W 5 #[.int .u8 x.wh],?_⟩
           rfl
          case body=>
           rintro l pre x a' W hl ⟨rr,hrr⟩ ⟨hm,hp⟩ ⟨Bx,hBx,hbx,rfl⟩ hlen
           subst ha0
           simp only[List.setIfInBounds_toArray,List.set_cons_succ,List.set_cons_zero]
           have HEx:=Hd (HEv.out x Bx W hm.bl hbx)
           obtain⟨bx,hbxe⟩:∃b,b=Ay x.wh x.y:=⟨_,rfl⟩
           rw[←hbxe]at HEx
           have HBE:=Hd hbxe
           have HMW:=Hd hm
           have HGo:=Hd (show∀W',Below W.heap.size W W'→Ay x.wh x.y=true→KeepsFrom w6.heap.size W W'∧Kp (g+1) w.heap.size W W'∧PSt w g #[.string p.name,.int .i64 p.ep,.string p.ver,.string p.rel,.int .u8 p.arch,.string p.vendor,.slice a1 p.prov.length q1,.slice a2 (Ab p.req).length q2,.slice a3 (Ab p.con).length q3,.slice a4 p.obs.length q4,.slice a5 (Ab p.reco).length q5,.slice a6 (Ab p.sup).length q6,.slice a7 (Ab p.sug).length q7,.slice a8 (Ab p.enh).length q8,.slice a9 p.files.length q9] W'∧(pre++ [x]).all (fun x=>Ay x.wh x.y)=true from fun W' hb hk=>
            ⟨KC.keeps hb _,Kp.of_below hm.bl.size hb,hm.below hb,by rw[List.all_append,hp];simp[hk]⟩)
           have HLe:=Hd (show∀W',Below W.heap.size W W'→Ay x.wh x.y=false→KeepsFrom w6.heap.size W (W'.setCell ⟨g+1,0,none⟩ (.bool false))∧(Below w.heap.size w (W'.setCell ⟨g+1,0,none⟩ (.bool false))∧Blk (W'.setCell ⟨g+1,0,none⟩ (.bool false)) (g+1) 4 #[.bool false]∧(pre++ [x]).all (fun x=>Ay x.wh x.y)=false)from fun W' hb hk=>
            ⟨(KC.keeps hb _).trans ((KeepsOthers.setCell _ _ _).from _),(hm.below hb).bl.setCell (p:=⟨g+1,0,none⟩) hwg _,(hm.below hb).rb.set_ 0 _,by rw[List.all_append];simp[hk]⟩)
           clear hm hbx hp hbxe HM6 HST HSQ
           cases bx with
           |true=>
            gi_wp2_with (first
             |(refine⟨trivial,?_⟩;gi_at_call 77;refine(CallsIn.inRound l (callsIn_wide.2 HEx.out)).mono ?_;rintro e w7 ⟨rfl,hb7⟩;have HB7:=Hd hb7;clear hb7)
             |fail)
            exact HGo.out w7 HB7.out HBE.out.symm
           |false=>
            gi_wp2_with (first
             |(refine⟨trivial,?_⟩;gi_at_call 77;refine(CallsIn.inRound l (callsIn_wide.2 HEx.out)).mono ?_;rintro e w7 ⟨rfl,hb7⟩;have HB7:=Hd hb7;have HM7:=Hd (HMW.out.below hb7);clear hb7;have l2:g+1<w7.heap.size:=HM7.out.rb.lt;have v0:w7.frozen? ⟨g+1,0,none⟩=false:=HM7.out.rb.frozen 0;have v1:w7.cell? ⟨g+1,0,none⟩=some (.bool false):=HM7.out.rb.cell 0)
             |fail)
            have hL:=HLe.out w7 HB7.out HBE.out.symm
            exact⟨hL.1,rfl,hL.2⟩
          case done=>
           rintro D ys W hD hS ⟨hm,hp⟩ hKD
           have hTt:T=true:=by
            rw[HT.out,HRow.out,←HSix.out,←hS,hp]
            simp
           subst hTt
           have u0:W.cell? ⟨g+1,0,none⟩=some (.bool false):=hm.rb.cell 0
           have v0:W.frozen? ⟨g+1,0,none⟩=false:=hm.rb.frozen 0
           have HMW:=Hd hm
           have HKD:=Hd hKD
           have HD2:=Hd (show w6.heap.size≤D from hD)
           subst ha0
           clear hm hp hS hKD hD HST HM6 HSQ
           go_wp2_with fail
           have hKs:=(KeepsOthers.setCell W ⟨g+1,0,none⟩ (.bool true)).same D _ HKD.out rfl
           refine⟨by simp,.inl ⟨_,_,rfl,run_takeDeferred hKs,?_⟩⟩
           exact⟨_,Av rfl _ _ (g+1) (.bool true) rfl (DT ((HMW.out.rb.set_ 0 _).grown (grownBy_putObj' _ D _) (fun e=>by injection e with e;have:=HD2.out;omega))),rfl,
            (HMW.out.bl.setCell (p:=⟨g+1,0,none⟩) hwg _).trans (belowK_b (w:=w) (Nat.le_refl _) _ D _ (.deferred none) (by have:=HD2.out;omega) hKs rfl rfl)⟩
          case stop=>
           rintro D cd ys W hD hS ⟨rfl,hbl,hbk,hf⟩ hKD
           have hTt:T=false:=by
            have h2: [x1,x2,x3,x4,x5,x6].all (fun x=>Ay x.wh x.y)=false:=by
             obtain⟨zs,hz⟩:=hS
             rw[←hz,List.all_append,hf];rfl
            rw[HT.out,←HSix.out,h2]
            simp
           subst hTt
           subst ha0
           have HBL:=Hd hbl
           have HBK:=Hd hbk
           have HKD:=Hd hKD
           have HD2:=Hd (show w6.heap.size≤D from hD)
           clear hbl hbk hf hS hKD hD HST HM6 HSQ
           gi_wp2
           refine⟨by simp,.inl ⟨_,_,rfl,run_takeDeferred HKD.out,?_⟩⟩
           exact⟨_,Av rfl _ _ (g+1) (.bool false) rfl (DT (HBK.out.grown (grownBy_putObj' _ D _) (fun e=>by injection e with e;have:=HD2.out;omega))),rfl,
            HBL.out.trans (belowK_b (w:=w) (Nat.le_refl _) _ D _ (.deferred none) (by have:=HD2.out;omega) HKD.out rfl rfl)⟩
open Go.ChangeShapes Go.WideShapes Go.ChangeAt Go.RowKit
theorem JI (W0:World) (l:List Aq) (vl:Value) (hl:LIn AN Ai W0 l vl) (P:Aq→Bool) (w:World) (hB:Below W0.heap.size W0 w)
 (one:∀x∈l,∀(r:AN.R) (w':World),AN.holds Ai W0 x r→Below w.heap.size w w'→Calls Tryz.prog 33 #[x.val r] w' fun e w''=>e= .returned (.bool (P x))∧Below w'.heap.size w' w''):
 Calls Tryz.prog 81 #[vl,.func (.func 33) #[] #[]] w (Im (l.any P) l.length w):=by
 obtain⟨a,c,rfl⟩:=hl.form
 have hn:=hl.bound
 have HL:=Hd hl
 have HO:=Hd one
 have HBW:=Hd hB
 have HB0:=Hd (Below.refl w.heap.size w)
 obtain⟨T,hT⟩:∃T,T=l.any P:=⟨_,rfl⟩
 rw[←hT]
 have HT:=Hd hT
 clear hl one hB hT
 go_enter Tryz.func81,Tryz.ntmps81
 go_wp2_with fail
 go_loopw [5,8] (fun y i wr=>∃k:Nat,k≤l.length∧i= .int .i64 k∧Hid ((l.take k).any P=false∧Below w.heap.size w wr)) (fun y i wr=>l.length-(intOf i).toNat)
 case atStart=>exact⟨0,by omega,rfl,Hd ⟨rfl,HB0.out⟩⟩
 case round=>
  obtain⟨k,hk,rfl,HQ⟩:=hrel
  by_cases hlt:k<l.length
  ·have hki:(k:Int)<(l.length:Int):=by omega
   obtain⟨b,o,r,ha,_,hcs0,hh⟩:=HL.out.at_ k hlt
   obtain⟨x,hx⟩:∃x,x=l[k]:=⟨_,rfl⟩
   have HX:=Hd (show l.take (k+1)=l.take k++ [x]from by rw[hx];exact List.take_succ_eq_append_getElem hlt)
   have hmem:x∈l:=by rw[hx];exact List.getElem_mem _
   have HMem:=Hd hmem
   rw[←hx]at hcs0 hh
   subst ha
   dsimp only[AN]at hcs0 r
   have hcs:=hcs0.same ((HBW.out.trans (HQ.out.2.mono HBW.out.size)).block b hcs0.1) (HBW.out.trans (HQ.out.2.mono HBW.out.size)).size
   have e0:wr.cell? ⟨b,o+k*15,none⟩=some (.string x.name):=hcs.2 0 (show 0<15 by omega)
   have e1:wr.cell? ⟨b,o+k*15+1,none⟩=some (.int .i64 x.ep):=hcs.2 1 (show 1<15 by omega)
   have e2:wr.cell? ⟨b,o+k*15+2,none⟩=some (.string x.ver):=hcs.2 2 (show 2<15 by omega)
   have e3:wr.cell? ⟨b,o+k*15+3,none⟩=some (.string x.rel):=hcs.2 3 (show 3<15 by omega)
   have e4:wr.cell? ⟨b,o+k*15+4,none⟩=some (.int .u8 x.arch):=hcs.2 4 (show 4<15 by omega)
   have e5:wr.cell? ⟨b,o+k*15+5,none⟩=some (.string x.vendor):=hcs.2 5 (show 5<15 by omega)
   have e6:wr.cell? ⟨b,o+k*15+6,none⟩=some (r.prov):=hcs.2 6 (show 6<15 by omega)
   have e7:wr.cell? ⟨b,o+k*15+7,none⟩=some (r.req):=hcs.2 7 (show 7<15 by omega)
   have e8:wr.cell? ⟨b,o+k*15+8,none⟩=some (r.con):=hcs.2 8 (show 8<15 by omega)
   have e9:wr.cell? ⟨b,o+k*15+9,none⟩=some (r.obs):=hcs.2 9 (show 9<15 by omega)
   have e10:wr.cell? ⟨b,o+k*15+10,none⟩=some (r.reco):=hcs.2 10 (show 10<15 by omega)
   have e11:wr.cell? ⟨b,o+k*15+11,none⟩=some (r.sup):=hcs.2 11 (show 11<15 by omega)
   have e12:wr.cell? ⟨b,o+k*15+12,none⟩=some (r.sug):=hcs.2 12 (show 12<15 by omega)
   have e13:wr.cell? ⟨b,o+k*15+13,none⟩=some (r.enh):=hcs.2 13 (show 13<15 by omega)
   have e14:wr.cell? ⟨b,o+k*15+14,none⟩=some (r.files):=hcs.2 14 (show 14<15 by omega)
   have eb:b<wr.heap.size:=hcs.1
   have HM:=Hd (HO.out x hmem _ wr hh HQ.out.2)
   obtain⟨pb,hpb⟩:∃pb,pb=P x:=⟨_,rfl⟩
   rw[←hpb]at HM
   have HPb:=Hd hpb
   clear hcs hcs0 hh hx hmem hpb
   cases pb with
   |true=>
    have HT2:=Hd (show T=true from HT.out.trans (List.any_eq_true.2 ⟨x,HMem.out,HPb.out.symm⟩))
    go_wp2_with (first
     |(go_at_call 33;(with_reducible refine HM.out.mono ?_);rintro e w2 ⟨rfl,HBc⟩;have HB2:=Hd (HQ.out.2.trans (HBc.mono HQ.out.2.size));clear HBc)
     |fail)
    go_ret
    exact⟨(k:Int),rfl,by rw[HT2.out];exact decide_eq_true (by omega),by omega,by omega,HB2.out⟩
   |false=>
    go_wp2_with (first
     |(go_at_call 33;(with_reducible refine HM.out.mono ?_);rintro e w2 ⟨rfl,HBc⟩;have HB2:=Hd (HQ.out.2.trans (HBc.mono HQ.out.2.size));clear HBc)
     |fail)
    go_roundw
    case rel=>exact⟨k+1,by omega,by go_num,Hd ⟨by rw[HX.out,List.any_append,HQ.out.1];simp[←HPb.out],HB2.out⟩⟩
    case measure=>simp[intOf];omega
  ·obtain rfl:k=l.length:=by omega
   have HT2:=Hd (show T=false from by have:=HQ.out.1;rw[List.take_length]at this;exact HT.out.trans this)
   go_wp2_with fail
   go_ret
   exact⟨-1,rfl,by rw[HT2.out];rfl,by omega,by omega,HQ.out.2⟩
theorem J6 (W0:World) (l:List Aq) (vl:Value) (hl:LIn AN Ai W0 l vl) (P:Aq→Bool) (w:World) (hB:Below W0.heap.size W0 w)
 (one:∀x∈l,∀(r:AN.R) (w':World),AN.holds Ai W0 x r→Below w.heap.size w w'→Calls Tryz.prog 33 #[x.val r] w' fun e w''=>e= .returned (.bool (P x))∧Below w'.heap.size w' w''):
 Calls Tryz.prog 38 #[vl,.func (.func 33) #[] #[]] w fun e w'=>e= .returned (.bool (l.any P))∧Below w.heap.size w w':=by
 have HI:=Hd (JI W0 l vl hl P w hB one)
 obtain⟨T,hT⟩:∃T,T=l.any P:=⟨_,rfl⟩
 rw[←hT]at HI ⊢
 clear hl one hB hT
 go_enter Tryz.func38,Tryz.ntmps38
 go_wp2_with (first
  |(go_at_call 81;(with_reducible refine HI.out.mono ?_);rintro e w1 ⟨i,rfl,hi,h1,h2,HBc⟩;have HI2:=Hd hi;clear hi)
  |fail)
 go_ret
 exact⟨Af HI2.out,HBc⟩
theorem JK (W0:World) (l:List AK) (vl:Value) (hl:LIn Az Ai W0 l vl) (P:AK→Bool) (w:World) (hB:Below W0.heap.size W0 w)
 (one:∀x∈l,∀(r:Az.R) (w':World),Az.holds Ai W0 x r→Below w.heap.size w w'→Calls Tryz.prog 36 #[.agg #[.int .i64 x.prio,r]] w' fun e w''=>e= .returned (.bool (P x))∧Below w'.heap.size w' w''):
 Calls Tryz.prog 80 #[vl,.func (.func 36) #[] #[]] w (Im (l.any P) l.length w):=by
 obtain⟨a,c,rfl⟩:=hl.form
 have hn:=hl.bound
 have HL:=Hd hl
 have HO:=Hd one
 have HBW:=Hd hB
 have HB0:=Hd (Below.refl w.heap.size w)
 obtain⟨T,hT⟩:∃T,T=l.any P:=⟨_,rfl⟩
 rw[←hT]
 have HT:=Hd hT
 clear hl one hB hT
 go_enter Tryz.func80,Tryz.ntmps80
 go_wp2_with fail
 go_loopw [5,8] (fun y i wr=>∃k:Nat,k≤l.length∧i= .int .i64 k∧Hid ((l.take k).any P=false∧Below w.heap.size w wr)) (fun y i wr=>l.length-(intOf i).toNat)
 case atStart=>exact⟨0,by omega,rfl,Hd ⟨rfl,HB0.out⟩⟩
 case round=>
  obtain⟨k,hk,rfl,HQ⟩:=hrel
  by_cases hlt:k<l.length
  ·have hki:(k:Int)<(l.length:Int):=by omega
   obtain⟨b,o,r,ha,_,hcs0,hh⟩:=HL.out.at_ k hlt
   obtain⟨x,hx⟩:∃x,x=l[k]:=⟨_,rfl⟩
   have HX:=Hd (show l.take (k+1)=l.take k++ [x]from by rw[hx];exact List.take_succ_eq_append_getElem hlt)
   have hmem:x∈l:=by rw[hx];exact List.getElem_mem _
   have HMem:=Hd hmem
   rw[←hx]at hcs0 hh
   subst ha
   dsimp only[Az]at hcs0 r
   have hcs:=hcs0.same ((HBW.out.trans (HQ.out.2.mono HBW.out.size)).block b hcs0.1) (HBW.out.trans (HQ.out.2.mono HBW.out.size)).size
   have e0:wr.cell? ⟨b,o+k*2,none⟩=some (.int .i64 x.prio):=hcs.2 0 (show 0<2 by omega)
   have e1:wr.cell? ⟨b,o+k*2+1,none⟩=some (r):=hcs.2 1 (show 1<2 by omega)
   have eb:b<wr.heap.size:=hcs.1
   have HM:=Hd (HO.out x hmem _ wr hh HQ.out.2)
   obtain⟨pb,hpb⟩:∃pb,pb=P x:=⟨_,rfl⟩
   rw[←hpb]at HM
   have HPb:=Hd hpb
   clear hcs hcs0 hh hx hmem hpb
   cases pb with
   |true=>
    have HT2:=Hd (show T=true from HT.out.trans (List.any_eq_true.2 ⟨x,HMem.out,HPb.out.symm⟩))
    go_wp2_with (first
     |(go_at_call 36;(with_reducible refine HM.out.mono ?_);rintro e w2 ⟨rfl,HBc⟩;have HB2:=Hd (HQ.out.2.trans (HBc.mono HQ.out.2.size));clear HBc)
     |fail)
    go_ret
    exact⟨(k:Int),rfl,by rw[HT2.out];exact decide_eq_true (by omega),by omega,by omega,HB2.out⟩
   |false=>
    go_wp2_with (first
     |(go_at_call 36;(with_reducible refine HM.out.mono ?_);rintro e w2 ⟨rfl,HBc⟩;have HB2:=Hd (HQ.out.2.trans (HBc.mono HQ.out.2.size));clear HBc)
     |fail)
    go_roundw
    case rel=>exact⟨k+1,by omega,by go_num,Hd ⟨by rw[HX.out,List.any_append,HQ.out.1];simp[←HPb.out],HB2.out⟩⟩
    case measure=>simp[intOf];omega
  ·obtain rfl:k=l.length:=by omega
   have HT2:=Hd (show T=false from by have:=HQ.out.1;rw[List.take_length]at this;exact HT.out.trans this)
   go_wp2_with fail
   go_ret
   exact⟨-1,rfl,by rw[HT2.out];rfl,by omega,by omega,HQ.out.2⟩
theorem J8 (W0:World) (l:List AK) (vl:Value) (hl:LIn Az Ai W0 l vl) (P:AK→Bool) (w:World) (hB:Below W0.heap.size W0 w)
 (one:∀x∈l,∀(r:Az.R) (w':World),Az.holds Ai W0 x r→Below w.heap.size w w'→Calls Tryz.prog 36 #[.agg #[.int .i64 x.prio,r]] w' fun e w''=>e= .returned (.bool (P x))∧Below w'.heap.size w' w''):
 Calls Tryz.prog 35 #[vl,.func (.func 36) #[] #[]] w fun e w'=>e= .returned (.bool (l.any P))∧Below w.heap.size w w':=by
 have HI:=Hd (JK W0 l vl hl P w hB one)
 obtain⟨T,hT⟩:∃T,T=l.any P:=⟨_,rfl⟩
 rw[←hT]at HI ⊢
 clear hl one hB hT
 go_enter Tryz.func35,Tryz.ntmps35
 go_wp2_with (first
  |(go_at_call 80;(with_reducible refine HI.out.mono ?_);rintro e w1 ⟨i,rfl,hi,h1,h2,HBc⟩;have HI2:=Hd hi;clear hi)
  |fail)
 go_ret
 exact⟨Af HI2.out,HBc⟩
theorem JJ (W0:World) (l:List AK) (vl:Value) (hl:LIn Az Ai W0 l vl) (bc:Nat) (P:AK→Bool) (w:World) (hB:Below W0.heap.size W0 w)
 (one:∀x∈l,∀(r:Az.R) (w':World),Az.holds Ai W0 x r→Below w.heap.size w w'→Calls Tryz.prog 37 #[.agg #[.int .i64 x.prio,r],.pointer (some ⟨bc,0,none⟩)] w' fun e w''=>e= .returned (.bool (P x))∧Below w'.heap.size w' w''):
 Calls Tryz.prog 80 #[vl,.func (.func 37) #[] #[.pointer (some ⟨bc,0,none⟩)]] w (Im (l.any P) l.length w):=by
 obtain⟨a,c,rfl⟩:=hl.form
 have hn:=hl.bound
 have HL:=Hd hl
 have HO:=Hd one
 have HBW:=Hd hB
 have HB0:=Hd (Below.refl w.heap.size w)
 obtain⟨T,hT⟩:∃T,T=l.any P:=⟨_,rfl⟩
 rw[←hT]
 have HT:=Hd hT
 clear hl one hB hT
 go_enter Tryz.func80,Tryz.ntmps80
 go_wp2_with fail
 go_loopw [5,8] (fun y i wr=>∃k:Nat,k≤l.length∧i= .int .i64 k∧Hid ((l.take k).any P=false∧Below w.heap.size w wr)) (fun y i wr=>l.length-(intOf i).toNat)
 case atStart=>exact⟨0,by omega,rfl,Hd ⟨rfl,HB0.out⟩⟩
 case round=>
  obtain⟨k,hk,rfl,HQ⟩:=hrel
  by_cases hlt:k<l.length
  ·have hki:(k:Int)<(l.length:Int):=by omega
   obtain⟨b,o,r,ha,_,hcs0,hh⟩:=HL.out.at_ k hlt
   obtain⟨x,hx⟩:∃x,x=l[k]:=⟨_,rfl⟩
   have HX:=Hd (show l.take (k+1)=l.take k++ [x]from by rw[hx];exact List.take_succ_eq_append_getElem hlt)
   have hmem:x∈l:=by rw[hx];exact List.getElem_mem _
   have HMem:=Hd hmem
   rw[←hx]at hcs0 hh
   subst ha
   dsimp only[Az]at hcs0 r
   have hcs:=hcs0.same ((HBW.out.trans (HQ.out.2.mono HBW.out.size)).block b hcs0.1) (HBW.out.trans (HQ.out.2.mono HBW.out.size)).size
   have e0:wr.cell? ⟨b,o+k*2,none⟩=some (.int .i64 x.prio):=hcs.2 0 (show 0<2 by omega)
   have e1:wr.cell? ⟨b,o+k*2+1,none⟩=some (r):=hcs.2 1 (show 1<2 by omega)
   have eb:b<wr.heap.size:=hcs.1
   have HM:=Hd (HO.out x hmem _ wr hh HQ.out.2)
   obtain⟨pb,hpb⟩:∃pb,pb=P x:=⟨_,rfl⟩
   rw[←hpb]at HM
   have HPb:=Hd hpb
   clear hcs hcs0 hh hx hmem hpb
   cases pb with
   |true=>
    have HT2:=Hd (show T=true from HT.out.trans (List.any_eq_true.2 ⟨x,HMem.out,HPb.out.symm⟩))
    go_wp2_with (first
     |(go_at_call 37;(with_reducible refine HM.out.mono ?_);rintro e w2 ⟨rfl,HBc⟩;have HB2:=Hd (HQ.out.2.trans (HBc.mono HQ.out.2.size));clear HBc)
     |fail)
    go_ret
    exact⟨(k:Int),rfl,by rw[HT2.out];exact decide_eq_true (by omega),by omega,by omega,HB2.out⟩
   |false=>
    go_wp2_with (first
     |(go_at_call 37;(with_reducible refine HM.out.mono ?_);rintro e w2 ⟨rfl,HBc⟩;have HB2:=Hd (HQ.out.2.trans (HBc.mono HQ.out.2.size));clear HBc)
     |fail)
    go_roundw
    case rel=>exact⟨k+1,by omega,by go_num,Hd ⟨by rw[HX.out,List.any_append,HQ.out.1];simp[←HPb.out],HB2.out⟩⟩
    case measure=>simp[intOf];omega
  ·obtain rfl:k=l.length:=by omega
   have HT2:=Hd (show T=false from by have:=HQ.out.1;rw[List.take_length]at this;exact HT.out.trans this)
   go_wp2_with fail
   go_ret
   exact⟨-1,rfl,by rw[HT2.out];rfl,by omega,by omega,HQ.out.2⟩
theorem J7 (W0:World) (l:List AK) (vl:Value) (hl:LIn Az Ai W0 l vl) (bc:Nat) (P:AK→Bool) (w:World) (hB:Below W0.heap.size W0 w)
 (one:∀x∈l,∀(r:Az.R) (w':World),Az.holds Ai W0 x r→Below w.heap.size w w'→Calls Tryz.prog 37 #[.agg #[.int .i64 x.prio,r],.pointer (some ⟨bc,0,none⟩)] w' fun e w''=>e= .returned (.bool (P x))∧Below w'.heap.size w' w''):
 Calls Tryz.prog 35 #[vl,.func (.func 37) #[] #[.pointer (some ⟨bc,0,none⟩)]] w fun e w'=>e= .returned (.bool (l.any P))∧Below w.heap.size w w':=by
 have HI:=Hd (JJ W0 l vl hl bc P w hB one)
 obtain⟨T,hT⟩:∃T,T=l.any P:=⟨_,rfl⟩
 rw[←hT]at HI ⊢
 clear hl one hB hT
 go_enter Tryz.func35,Tryz.ntmps35
 go_wp2_with (first
  |(go_at_call 80;(with_reducible refine HI.out.mono ?_);rintro e w1 ⟨i,rfl,hi,h1,h2,HBc⟩;have HI2:=Hd hi;clear hi)
  |fail)
 go_ret
 exact⟨Af HI2.out,HBc⟩
end Go.Proofs.YtdpjjnbelgaagaaGreatDoor
