/- shape.of: what a Kind asks. Conditions: as each theorem names them. -/
import Derived.Test.YtdpjjnbelgaagaaGreatDoorG02
import Derived.Laws.Rows
import Derived.Great.BuildSlice
import Derived.Deep.WholeRow
import Derived.Deep.Cut
namespace Go.Proofs.YtdpjjnbelgaagaaGreatDoor
set_option maxHeartbeats 32000000
open Go.ChangeShapes Go.WideShapes Go.ChangeAt Go.RowKit Go.Deep
set_option maxRecDepth 100000
structure QI where
 least:Int
 most:Int
 alone:Bool
 wher:Int
def Fh (k:Int):QI:=
 if k=1 then⟨0,0,true,3⟩else if k=2 then⟨2,24,true,3⟩else if k=3 then⟨2,24,true,3⟩else if k=4 then⟨2,3,false,1⟩else if k=5 then⟨2,3,false,2⟩else if k=6 then⟨2,24,true,3⟩else if k=7 then⟨2,2,true,3⟩else⟨0,0,false,0⟩
abbrev QI.val (a:QI):Value:= .agg #[.int .i64 a.least,.int .i64 a.most,.bool a.alone,.int .u8 a.wher]
abbrev PW:Array Value:= #[.int .i64 0,.int .i64 0,.bool false,.int .u8 0,.int .i64 0,.int .i64 0,.bool true,.int .u8 3,.int .i64 2,.int .i64 24,.bool true,.int .u8 3,.int .i64 2,.int .i64 24,.bool true,.int .u8 3,.int .i64 2,.int .i64 3,.bool false,.int .u8 1,.int .i64 2,.int .i64 3,.bool false,.int .u8 2,.int .i64 2,.int .i64 24,.bool true,.int .u8 3,.int .i64 2,.int .i64 2,.bool true,.int .u8 3]
abbrev QJ:Array Value:= #[.int .i64 0,.int .i64 0,.bool false,.int .u8 0,.int .i64 0,.int .i64 0,.bool false,.int .u8 0,.int .i64 0,.int .i64 0,.bool false,.int .u8 0,.int .i64 0,.int .i64 0,.bool false,.int .u8 0,.int .i64 0,.int .i64 0,.bool false,.int .u8 0,.int .i64 0,.int .i64 0,.bool false,.int .u8 0,.int .i64 0,.int .i64 0,.bool false,.int .u8 0,.int .i64 0,.int .i64 0,.bool false,.int .u8 0]
theorem Cy {w:World} {g:Nat} {o0 o1 o2 o3:Value} (h:Blk w g 169 #[o0,o1,o2,o3]) (a b c d:Value):Blk ((((w.setCell ⟨g,0,none⟩ a).setCell ⟨g,1,none⟩ b).setCell ⟨g,2,none⟩ c).setCell ⟨g,3,none⟩ d) g 169 #[a,b,c,d]:=
 (((h.set_ 0 a).set_ 1 b).set_ 2 c).set_ 3 d
theorem BE {w0 w:World} {g:Nat} (h:Below w0.heap.size w0 w) (hg:w0.heap.size≤g) (a b c d:Value):Below w0.heap.size w0 ((((w.setCell ⟨g,0,none⟩ a).setCell ⟨g,1,none⟩ b).setCell ⟨g,2,none⟩ c).setCell ⟨g,3,none⟩ d):=
 (((h.setCell (p:=⟨g,0,none⟩) hg a).setCell (p:=⟨g,1,none⟩) hg b).setCell (p:=⟨g,2,none⟩) hg c).setCell (p:=⟨g,3,none⟩) hg d
theorem Qt (k:Int) (h0:0≤k) (h1:k<256) (w:World):Calls Tryz.prog 129 #[.int .u8 k] w fun e w'=>e= .returned (Fh k).val∧Below w.heap.size w w':=by
 obtain⟨w1,hw1⟩:∃w1,w1=w.alloc (.cells #[.int .i64 0,.int .i64 0,.bool false,.int .u8 0] 169):=⟨_,rfl⟩
 obtain⟨w2,hw2⟩:∃w2,w2=w1.alloc (.cells PW 193):=⟨_,rfl⟩
 obtain⟨g,hg⟩:∃g,g=w.heap.size:=⟨_,rfl⟩
 have hg1:w1.heap.size=g+1:=by rw[hw1,hg];simp
 have hb1:Below w.heap.size w w1:=by rw[hw1];exact AL _ _
 have hb2:Below w.heap.size w w2:=by rw[hw2];exact hb1.trans ((AL w1 _).mono (by omega))
 have hk1:Blk w1 g 169 #[.int .i64 0,.int .i64 0,.bool false,.int .u8 0]:=by rw[hw1,hg];exact Blk.new _ _ _
 have hk2:Blk w2 g 169 #[.int .i64 0,.int .i64 0,.bool false,.int .u8 0]:=by rw[hw2];exact hk1.alloc _
 have hk3:Blk w2 (g+1) 193 PW:=by rw[hw2,←hg1];exact Blk.new _ _ _
 have HB2:=Hd hb2
 have HK2:=Hd hk2
 have HK3:=Hd hk3
 have HG:=Hd hg
 have HG1:=Hd hg1
 have HW1:=Hd hw1
 clear hb1 hk1 hb2 hk2 hk3 hg1 hg
 go_enter Tryz.func129,Tryz.ntmps129
 go_upto_region 1 with fail
 rw[←hw1]
 clear hw1
 go_upto_region 2 with (first
  |(refine wpList_buildTo rfl 193 _ rfl (some 11) rfl PW (by kernel_rfl) ?_)
  |(refine wpList_store_rowTo rfl 193 _ _ rfl rfl w1.heap.size PW rfl rfl 193 QJ (heap_alloc_last w1 _) (by kernel_rfl) rfl (by kernel_rfl) ?_;rw[World.setRow_alloc_new,←hw2]))
 rw[HG1.out,←HG.out]
 have c0:w2.cell? ⟨g,0,none⟩=some (.int .i64 0):=HK2.out.cell 0
 have c1:w2.cell? ⟨g,1,none⟩=some (.int .i64 0):=HK2.out.cell 1
 have c2:w2.cell? ⟨g,2,none⟩=some (.bool false):=HK2.out.cell 2
 have c3:w2.cell? ⟨g,3,none⟩=some (.int .u8 0):=HK2.out.cell 3
 have f0:w2.frozen? ⟨g,0,none⟩=false:=HK2.out.frozen 0
 have f1:w2.frozen? ⟨g,1,none⟩=false:=HK2.out.frozen 1
 have f2:w2.frozen? ⟨g,2,none⟩=false:=HK2.out.frozen 2
 have f3:w2.frozen? ⟨g,3,none⟩=false:=HK2.out.frozen 3
 clear hw2
 by_cases hk:8≤k
 ·have hw:wrap64 k=k:=by unfold wrap64;omega
  have hd:decide (8≤k)=true:=by simpa using hk
  have hE:Fh k=⟨0,0,false,0⟩:=by
   unfold Fh
   rw[if_neg (by omega),if_neg (by omega),if_neg (by omega),if_neg (by omega),if_neg (by omega),if_neg (by omega),if_neg (by omega)]
  have HEk:=Hd hE
  clear hE
  go_wp2_with fail
  refine bodyPost_ret (results_cell_row rfl _ _ g 169 _ (0,0) _ rfl (Cy HK2.out _ _ _ _) Tryz.underlying169 rfl (by kernel_rfl)) rfl ⟨?_,BE HB2.out (by rw[HG.out];exact Nat.le_refl _) _ _ _ _⟩
  rw[HEk.out]
 ·have:k=0∨k=1∨k=2∨k=3∨k=4∨k=5∨k=6∨k=7:=by omega
  have HE:=Hd (fun i=>HK3.out.cell i)
  clear h0 h1 hk
  rcases this with rfl|rfl|rfl|rfl|rfl|rfl|rfl|rfl
  ·have e0:w2.cell? ⟨g+1,0,none⟩=some (.int .i64 0):=HE.out 0
   have e1:w2.cell? ⟨g+1,1,none⟩=some (.int .i64 0):=HE.out 1
   have e2:w2.cell? ⟨g+1,2,none⟩=some (.bool false):=HE.out 2
   have e3:w2.cell? ⟨g+1,3,none⟩=some (.int .u8 0):=HE.out 3
   go_wp2_with fail
   exact bodyPost_ret (results_cell_row rfl _ _ g 169 _ (0,0) _ rfl (Cy HK2.out _ _ _ _) Tryz.underlying169 rfl (by kernel_rfl)) rfl ⟨rfl,BE HB2.out (by rw[HG.out];exact Nat.le_refl _) _ _ _ _⟩
  ·have e0:w2.cell? ⟨g+1,4,none⟩=some (.int .i64 0):=HE.out 4
   have e1:w2.cell? ⟨g+1,5,none⟩=some (.int .i64 0):=HE.out 5
   have e2:w2.cell? ⟨g+1,6,none⟩=some (.bool true):=HE.out 6
   have e3:w2.cell? ⟨g+1,7,none⟩=some (.int .u8 3):=HE.out 7
   go_wp2_with fail
   exact bodyPost_ret (results_cell_row rfl _ _ g 169 _ (0,0) _ rfl (Cy HK2.out _ _ _ _) Tryz.underlying169 rfl (by kernel_rfl)) rfl ⟨rfl,BE HB2.out (by rw[HG.out];exact Nat.le_refl _) _ _ _ _⟩
  ·have e0:w2.cell? ⟨g+1,8,none⟩=some (.int .i64 2):=HE.out 8
   have e1:w2.cell? ⟨g+1,9,none⟩=some (.int .i64 24):=HE.out 9
   have e2:w2.cell? ⟨g+1,10,none⟩=some (.bool true):=HE.out 10
   have e3:w2.cell? ⟨g+1,11,none⟩=some (.int .u8 3):=HE.out 11
   go_wp2_with fail
   exact bodyPost_ret (results_cell_row rfl _ _ g 169 _ (0,0) _ rfl (Cy HK2.out _ _ _ _) Tryz.underlying169 rfl (by kernel_rfl)) rfl ⟨rfl,BE HB2.out (by rw[HG.out];exact Nat.le_refl _) _ _ _ _⟩
  ·have e0:w2.cell? ⟨g+1,12,none⟩=some (.int .i64 2):=HE.out 12
   have e1:w2.cell? ⟨g+1,13,none⟩=some (.int .i64 24):=HE.out 13
   have e2:w2.cell? ⟨g+1,14,none⟩=some (.bool true):=HE.out 14
   have e3:w2.cell? ⟨g+1,15,none⟩=some (.int .u8 3):=HE.out 15
   go_wp2_with fail
   exact bodyPost_ret (results_cell_row rfl _ _ g 169 _ (0,0) _ rfl (Cy HK2.out _ _ _ _) Tryz.underlying169 rfl (by kernel_rfl)) rfl ⟨rfl,BE HB2.out (by rw[HG.out];exact Nat.le_refl _) _ _ _ _⟩
  ·have e0:w2.cell? ⟨g+1,16,none⟩=some (.int .i64 2):=HE.out 16
   have e1:w2.cell? ⟨g+1,17,none⟩=some (.int .i64 3):=HE.out 17
   have e2:w2.cell? ⟨g+1,18,none⟩=some (.bool false):=HE.out 18
   have e3:w2.cell? ⟨g+1,19,none⟩=some (.int .u8 1):=HE.out 19
   go_wp2_with fail
   exact bodyPost_ret (results_cell_row rfl _ _ g 169 _ (0,0) _ rfl (Cy HK2.out _ _ _ _) Tryz.underlying169 rfl (by kernel_rfl)) rfl ⟨rfl,BE HB2.out (by rw[HG.out];exact Nat.le_refl _) _ _ _ _⟩
  ·have e0:w2.cell? ⟨g+1,20,none⟩=some (.int .i64 2):=HE.out 20
   have e1:w2.cell? ⟨g+1,21,none⟩=some (.int .i64 3):=HE.out 21
   have e2:w2.cell? ⟨g+1,22,none⟩=some (.bool false):=HE.out 22
   have e3:w2.cell? ⟨g+1,23,none⟩=some (.int .u8 2):=HE.out 23
   go_wp2_with fail
   exact bodyPost_ret (results_cell_row rfl _ _ g 169 _ (0,0) _ rfl (Cy HK2.out _ _ _ _) Tryz.underlying169 rfl (by kernel_rfl)) rfl ⟨rfl,BE HB2.out (by rw[HG.out];exact Nat.le_refl _) _ _ _ _⟩
  ·have e0:w2.cell? ⟨g+1,24,none⟩=some (.int .i64 2):=HE.out 24
   have e1:w2.cell? ⟨g+1,25,none⟩=some (.int .i64 24):=HE.out 25
   have e2:w2.cell? ⟨g+1,26,none⟩=some (.bool true):=HE.out 26
   have e3:w2.cell? ⟨g+1,27,none⟩=some (.int .u8 3):=HE.out 27
   go_wp2_with fail
   exact bodyPost_ret (results_cell_row rfl _ _ g 169 _ (0,0) _ rfl (Cy HK2.out _ _ _ _) Tryz.underlying169 rfl (by kernel_rfl)) rfl ⟨rfl,BE HB2.out (by rw[HG.out];exact Nat.le_refl _) _ _ _ _⟩
  ·have e0:w2.cell? ⟨g+1,28,none⟩=some (.int .i64 2):=HE.out 28
   have e1:w2.cell? ⟨g+1,29,none⟩=some (.int .i64 2):=HE.out 29
   have e2:w2.cell? ⟨g+1,30,none⟩=some (.bool true):=HE.out 30
   have e3:w2.cell? ⟨g+1,31,none⟩=some (.int .u8 3):=HE.out 31
   go_wp2_with fail
   exact bodyPost_ret (results_cell_row rfl _ _ g 169 _ (0,0) _ rfl (Cy HK2.out _ _ _ _) Tryz.underlying169 rfl (by kernel_rfl)) rfl ⟨rfl,BE HB2.out (by rw[HG.out];exact Nat.le_refl _) _ _ _ _⟩
open Go.ChangeShapes Go.WideShapes Go.ChangeAt Go.RowKit Go.Deep Go.Shelf
attribute [local go_sem] Oper.semAt_some
def Ax.none (d:Ax):Bool:=d.name.toList.isEmpty && (d.op==0 && d.zero)
def Cw (wh:Int) (x:OJ):Bool:=
 !(decide ((Fh x.1).wher<wh)) && (!(x.2.2.2 && !(Fh x.1).alone) && (!(decide ((x.2.2.1:Int)<(Fh x.1).least)) && (!(decide ((Fh x.1).most<(x.2.2.1:Int))) && (if x.1=1 then Ca x.2.1 else x.2.1.none))))
def CS (r:Ac) (wh:Int):Int:=
 if wh<1∨3<wh then 1 else if 24<r.count then 40 else if 8<r.depth then 21 else if (r.parts false).all (Cw wh)then 0 else 4
theorem Av {P:Program} {fn:Func} {p:Tmp} {ty:TypeId} (h:fn.results= #[.cell p ty]) (tmps:Array Value) (w:World) (g:Nat) (v:Value) (hp:tmps.getD p undef= .pointer (some ⟨g,0,none⟩)) (hl:(loadVar ty ⟨g,0,none⟩).run P w= .ok v w):(results fn tmps).run P w= .ok v w:=by
 have hp':tmps[p]?.getD undef= .pointer (some ⟨g,0,none⟩):=by simpa using hp
 simp[results,h,hp',asAddr,hl]
theorem Fa {w:World} {g:Nat} {v:Value} {t:TypeId} (hb:Blk w g t #[v]):(loadVar 42 ⟨g,0,none⟩).run Tryz.prog w= .ok v w:=by
 have hc:w.cell? ⟨g,0,none⟩=some v:=hb.cell 0
 have h1:=Tryz.isAgg42
 have h2:=Tryz.sizeOf42
 simp[go_sem,loadVar,h1,h2,hc]
attribute [local go_sem] Oper.semAt_some
abbrev Ax.cs (d:Ax):List Value:= [.string d.name,.int .u8 d.op,.int .i64 d.ep,.string d.ver,.string d.rel]
def enD:List Ax→List Value| []=> []|d::l=>d.cs++enD l
theorem LF:(a b:List Ax)→enD (a++b)=enD a++enD b
 | [],_=>rfl
 |d::a,b=>by
  show d.cs++enD (a++b)=(d.cs++enD a)++enD b
  rw[LF a b,List.append_assoc]
theorem IJ:(l:List Ax)→∀u∈enD l,u.oneCell'=true
 | [],u,h=>by cases h
 |d::l,u,h=>by
  rcases List.mem_append.1 h with h|h
  ·simp only[List.mem_cons,List.not_mem_nil,or_false]at h
   rcases h with rfl|rfl|rfl|rfl|rfl<;>rfl
  ·exact IJ l u h
theorem ME {W W':World} {e:TypeId} {size:Nat} {v:Value} {n:Nat} {xs:List Value} (h:Own W e size v n xs) (hg:W.grownBy W' v.ownBlock):KeepsOthers W W':=
 ⟨hg.size,fun k o hk ho=>(hg.block k (Array.getElem?_eq_some_iff.1 hk).1 (fun e=>by
   obtain⟨cur,hb⟩:=h.blk e.symm
   unfold Blk at hb
   rw[hb]at hk
   injection hk with hk
   rw[←hk]at ho
   cases ho)).trans hk⟩
theorem Qy {W W':World} {size:Nat} {v:Value} {n:Nat} {xs:List Value} {B n0:Nat} (h:Own W 32 size v n xs) (hg:W.grownBy W' v.ownBlock) (hn:n0≤W.heap.size) (hv:∀k,v.ownBlock=some k→n0≤k):Kp B n0 W W':=
 ⟨⟨hg.size,fun k o _ hk hc hd=>(hg.block k (Array.getElem?_eq_some_iff.1 hk).1 (fun e=>by
   obtain⟨cur,hb⟩:=h.blk e.symm
   unfold Blk at hb
   rw[hb]at hk
   injection hk with hk
   rw[←hk]at hd
   cases hd)).trans hk⟩,hg.os,hg.tape,hg.output,hg.size,fun k hk=>hg.block k (by omega) (fun e=>by have:=hv k e.symm;omega)⟩
theorem Ll (w:World) (d:Ax):Src Tryz.prog 5 25 (.slice (some ⟨w.heap.size,0,none⟩) 1 1) 1 d.cs (w.alloc (.cells #[.string d.name,.int .u8 d.op,.int .i64 d.ep,.string d.ver,.string d.rel] 32)):=
 (Own.made w 32 5 #[.string d.name,.int .u8 d.op,.int .i64 d.ep,.string d.ver,.string d.rel] 1 rfl (by simp[maxLen])).src Tryz.underlying25 (fun u hu=>IJ [d] u (by
   show u∈d.cs++ []
   rw[List.append_nil]
   exact hu))
theorem Q0:∃i,Tryz.prog.info? 32=some i∧i.zero=some (.agg #[.string ⟨#[]⟩,.int .u8 0,.int .i64 0,.string ⟨#[]⟩,.string ⟨#[]⟩])∧i.size=5∧i.bytes=64:=
 info_parts (P:=Tryz.prog) (e:=32) (z:= .agg #[.string ⟨#[]⟩,.int .u8 0,.int .i64 0,.string ⟨#[]⟩,.string ⟨#[]⟩]) (size:=5) (bytes:=64) (by kernel_rfl)
structure ASt (w:World) (g:Nat) (ds:List Ax) (v:Value) (W:World):Prop where
 bl:Below w.heap.size w W
 bv:Blk W g 25 #[v]
 ow:Own W 32 5 v ds.length (enD ds)
 hi:∀k,v.ownBlock=some k→w.heap.size≤k
theorem ASt.new_ {w:World} {g:Nat} {ds:List Ax} {v:Value} {W W':World} (h:ASt w g ds v W) (hb:Below W.heap.size W W'):ASt w g ds v W':=
 ⟨h.bl.trans (hb.mono h.bl.size),h.bv.below hb h.bv.lt,h.ow.new hb,h.hi⟩
theorem ASt.put {w:World} {g:Nat} {ds:List Ax} {v v':Value} {W W':World} {d:Ax} (h:ASt w g ds v W) (hgw:w.heap.size≤g) (hO:Own W' 32 5 v' (ds.length+1) (enD ds++d.cs)) (hg:W.grownBy W' v.ownBlock) (hat:v'.ownBlock=v.ownBlock∨v'.ownBlock=some W.heap.size) (_hlt:∀k,v'.ownBlock=some k→k<W'.heap.size):
 ASt w g (ds++ [d]) v' (W'.setCell ⟨g,0,none⟩ v')∧KeepsOthers W (W'.setCell ⟨g,0,none⟩ v')∧Kp g w.heap.size W (W'.setCell ⟨g,0,none⟩ v'):=by
 have hkp:=Qy (B:=g) h.ow hg h.bl.size h.hi
 have hne:v.ownBlock≠some g:=h.ow.ne_blk h.bv (by decide)
 have hbv:Blk W' g 25 #[v]:=h.bv.grown hg (fun e=>hne e.symm)
 have hne':v'.ownBlock≠some g:=hO.ne_blk hbv (by decide)
 refine⟨⟨(h.bl.trans hkp.bl).setCell (p:=⟨g,0,none⟩) hgw _,hbv.set_ 0 v',?_,?_⟩,(ME h.ow hg).trans (KeepsOthers.setCell _ _ _),hkp.t (Kp.set hgw _ _ _)⟩
 ·have h2:=hO.far (p:=⟨g,0,none⟩) hne' v'
  rw[LF,List.length_append]
  have h3:enD [d]=d.cs:=List.append_nil _
  rw[h3]
  exact h2
 ·intro k hk
  rcases hat with e|e
  ·exact h.hi k (e▸hk)
  ·rw[e]at hk
   injection hk with hk
   have:=h.bl.size
   omega
def Ar (a b:Ax):Bool:=decide (a.name.toList=b.name.toList) && (decide (a.op=b.op) && (decide (a.ep=b.ep) && (decide (a.ver.toList=b.ver.toList) && decide (a.rel.toList=b.rel.toList))))
theorem DX {a b:ByteArray} (h:a.toList=b.toList):a=b:=by
 rw[ByteArray.toList_eq,ByteArray.toList_eq]at h
 rcases a with ⟨⟨a⟩⟩
 rcases b with ⟨⟨b⟩⟩
 simp only at h
 rw[h]
theorem BV {a b:Ax}:Ar a b=true↔a=b:=by
 rcases a with ⟨a0,a1,a2,a3,a4⟩
 rcases b with ⟨b0,b1,b2,b3,b4⟩
 simp only[Ar,Bool.and_eq_true,decide_eq_true_eq,Ax.mk.injEq]
 exact⟨fun⟨h0,h1,h2,h3,h4⟩=>⟨DX h0,h1,h2,DX h3,DX h4⟩,fun⟨h0,h1,h2,h3,h4⟩=>⟨congrArg _ h0,h1,h2,congrArg _ h3,congrArg _ h4⟩⟩
def CQ (p:Nat→Bool):Nat→Bool|0=>true|k+1=>CQ p k && p k
def As:Ac→Ac→Bool
 | .nil,b=>decide (b.kind=0) && (Ar EI b.dep && decide (b.n=0))
 | .node k d n f,b=>decide (k=b.kind) && (Ar d b.dep && (decide (n=b.n) && CQ (fun j=>As (f j) (b.args j)) n))
theorem Eu (a b:Ac):As a b=(decide (a.kind=b.kind) && (Ar a.dep b.dep && (decide (a.n=b.n) && CQ (fun j=>As (a.args j) (b.args j)) a.n))):=by
 cases a with
 |nil=>
  show(decide (b.kind=0) && (Ar EI b.dep && decide (b.n=0)))=(decide (0=b.kind) && (Ar EI b.dep && (decide (0=b.n) && true)))
  rw[Bool.and_true,decide_eq_decide.2 (eq_comm (a:=b.kind) (b:=0)),decide_eq_decide.2 (eq_comm (a:=b.n) (b:=0))]
 |node k d n f=>rfl
theorem Hg {a b:Ac} (h:¬a.kind=b.kind):As a b=false:=by rw[Eu,decide_eq_false h];rfl
theorem Cb {a b:Ac} (h:Ar a.dep b.dep=false):As a b=false:=by rw[Eu,h,Bool.false_and,Bool.and_false]
theorem ET {a b:Ax} (h:¬a.name.toList=b.name.toList):Ar a b=false:=by unfold Ar;rw[decide_eq_false h];rfl
theorem IQ {a b:Ax} (h:¬a.op=b.op):Ar a b=false:=by unfold Ar;rw[decide_eq_false h];simp
theorem IR {a b:Ax} (h:¬a.ep=b.ep):Ar a b=false:=by unfold Ar;rw[decide_eq_false h];simp
theorem FW {a b:Ax} (h:¬a.ver.toList=b.ver.toList):Ar a b=false:=by unfold Ar;rw[decide_eq_false h];simp
theorem FX {a b:Ax} (h:¬a.rel.toList=b.rel.toList):Ar a b=false:=by unfold Ar;rw[decide_eq_false h];simp
theorem EU {a b:Ax} (h0:a.name.toList=b.name.toList) (h1:a.op=b.op) (h2:a.ep=b.ep) (h3:a.ver.toList=b.ver.toList) (h4:a.rel.toList=b.rel.toList):Ar a b=true:=by
 unfold Ar
 rw[decide_eq_true h0,decide_eq_true h1,decide_eq_true h2,decide_eq_true h3,decide_eq_true h4]
 rfl
theorem Ag (w:World) (o:Obj):Below w.heap.size w (w.alloc o):=(Below.refl _ w).alloc (Nat.le_refl _) _
theorem Aa {A B C:World} (h:Below A.heap.size A B) (k:Below B.heap.size B C):Below A.heap.size A C:=h.trans (k.mono h.size)
def GR (a b:Ac):Bool:=decide (a.n=b.n) && CQ (fun j=>As (a.args j) (b.args j)) a.n
theorem Hb {a b:Ac} (hk:a.kind=b.kind) (hd:Ar a.dep b.dep=true):As a b=GR a b:=by rw[Eu,decide_eq_true hk,hd];rfl
theorem F0 {p:Nat→Bool} {k:Nat}:∀n,k<n→p k=false→CQ p n=false
 |0,h,_=>by omega
 |n+1,h,hp=>by
  simp only[CQ]
  by_cases e:k=n
  ·rw[←e,hp,Bool.and_false]
  ·rw[F0 n (by omega) hp,Bool.false_and]
theorem Au.elems2 {w:World} {r:Ac} {a:Option Addr} {c:Nat} (h:Au w r (.slice a r.n c)):∃S:Nat→Value,(∀j,j<r.n→∃b o,a=some ⟨b,o,none⟩∧AH w b (o+j*7) (r.args j) (S j))∧∀j,j<r.n→Au w (r.args j) (S j):=by
 obtain⟨r,a,c,S,hd,hn,hA,hS⟩:=h
 exact⟨S,hA,hS⟩
theorem Au.bound {w:World} {r:Ac} {s:Value} (h:Au w r s):r.n≤9223372036854775807:=by
 cases h
 assumption
theorem LC (W:World) (r r2:Ac) (a a2:Option Addr) (c c2:Nat) (hs:Au W r (.slice a r.n c)) (hs2:Au W r2 (.slice a2 r2.n c2)) (w:World) (hB:Below W.heap.size W w)
 (ih:∀j,j<r.n→∀(S S2:Value) (w':World),Au W (r.args j) S→Au W (r2.args j) S2→Below W.heap.size W w'→
   Calls Tryz.prog 98 #[(r.args j).val S,(r2.args j).val S2] w' fun e w''=>e= .returned (.bool (As (r.args j) (r2.args j)))∧Below w'.heap.size w' w''):
 Calls Tryz.prog 97 #[.slice a r.n c,.slice a2 r2.n c2,.func (.func 98) #[] #[]] w fun e w'=>e= .returned (.bool (GR r r2))∧Below w.heap.size w w':=by
 have hn:=hs.bound
 have hn2:=hs2.bound
 obtain⟨S,hA,hS⟩:=hs.elems2
 obtain⟨S2,hA2,hS2⟩:=hs2.elems2
 have HB0:=Below.refl w.heap.size w
 obtain⟨T,hT⟩:∃T,T=GR r r2:=⟨_,rfl⟩
 rw[←hT]
 unfold GR at hT
 by_cases hnn:r.n=r2.n
 ·rw[decide_eq_true hnn,Bool.true_and]at hT
  have HT:=Hd hT
  have HE:=Hd (show∀w',Below W.heap.size W w'→∀j,j<r.n→(∃b o,a=some ⟨b,o,none⟩∧AH w' b (o+j*7) (r.args j) (S j))∧∃b o,a2=some ⟨b,o,none⟩∧AH w' b (o+j*7) (r2.args j) (S2 j)from fun w' h j hj=>by
   obtain⟨b,o,h1,h2⟩:=hA j hj
   obtain⟨b',o',h3,h4⟩:=hA2 j (by omega)
   exact⟨⟨b,o,h1,h2.below h⟩,b',o',h3,h4.below h⟩)
  have HI:=Hd (show∀j,j<r.n→∀w',Below W.heap.size W w'→Calls Tryz.prog 98 #[(r.args j).val (S j),(r2.args j).val (S2 j)] w' fun e w''=>e= .returned (.bool (As (r.args j) (r2.args j)))∧Below w'.heap.size w' w'' from fun j hj w' h=>ih j hj _ _ w' (hS j hj) (hS2 j (by omega)) h)
  have HSf:=Hd (show∀j,j<r.n→(∃a' c',S j= .slice a' (r.args j).n c')∧∃a' c',S2 j= .slice a' (r2.args j).n c' from fun j hj=>⟨(hS j hj).form,(hS2 j (by omega)).form⟩)
  have HBW:=Hd hB
  have HNN:=Hd hnn
  have hn3:(r2.n:Int)=(r.n:Int):=by omega
  rw[←hnn]
  clear hT hA hA2 hS hS2 hs hs2 ih hB hn3 hn2 hnn
  go_enter Tryz.func97,Tryz.ntmps97
  go_wp2_with fail
  go_loopw [17] (fun i wr=>∃k:Nat,k≤r.n∧i= .int .i64 k∧Hid (CQ (fun j=>As (r.args j) (r2.args j)) k=true)∧Hid (Below w.heap.size w wr)) (fun i wr=>r.n-(intOf i).toNat)
  case atStart=>exact⟨0,by omega,rfl,Hd rfl,Hd HB0⟩
  case round=>
   obtain⟨k,hk,rfl,HQ,HBk⟩:=hrel
   by_cases hlt:k<r.n
   ·have hki:(k:Int)<(r.n:Int):=by omega
    have HB2:=Hd (HBW.out.trans (HBk.out.mono HBW.out.size))
    obtain⟨⟨b,o,ha,e0,e1,e2,e3,e4,e5,e6,e7⟩,b',o',ha',f0,f1,f2,f3,f4,f5,f6,f7⟩:=HE.out wr HB2.out k hlt
    subst ha
    subst ha'
    obtain⟨⟨xa,xc,hx⟩,ya,yc,hy⟩:=HSf.out k hlt
    obtain⟨w2,hw2⟩:∃w2,w2=(wr.alloc (AT (r.args k) (S k))).alloc (AT (r2.args k) (S2 k)):=⟨_,rfl⟩
    have hbn:Below wr.heap.size wr w2:=by rw[hw2];exact Aa (Ag _ _) (Ag _ _)
    have HB3:=Hd (HBk.out.trans (hbn.mono HBk.out.size))
    have HM:=Hd (HI.out k hlt w2 (HB2.out.trans (hbn.mono HB2.out.size)))
    have HBn:=Hd hbn
    rw[hw2]at HM HB3
    simp only[hx,hy]at HM HB3 e6 f6
    clear hw2 hbn
    obtain⟨bb,hbb⟩:∃bb,bb=As (r.args k) (r2.args k):=⟨_,rfl⟩
    rw[←hbb]at HM
    have HBb:=Hd hbb
    clear hbb
    cases bb with
    |true=>
     go_wp2_with (first
      |(go_at_call 98;(with_reducible refine(HM.out).mono ?_);rintro e w1 ⟨rfl,HBc⟩;have HB1:=Hd (HB3.out.trans (HBc.mono HB3.out.size));clear HBc)
      |fail)
     go_roundw
     case rel=>exact⟨k+1,by omega,by go_num,Hd (by simp only[CQ];rw[HQ.out,←HBb.out];rfl),HB1⟩
     case measure=>simp[intOf];omega
    |false=>
     have HT2:=Hd (show T=false by rw[HT.out];exact F0 r.n hlt HBb.out.symm)
     go_wp2_with (first
      |(go_at_call 98;(with_reducible refine(HM.out).mono ?_);rintro e w1 ⟨rfl,HBc⟩;have HB1:=Hd (HB3.out.trans (HBc.mono HB3.out.size));clear HBc)
      |fail)
     go_ret
     exact⟨Af HT2.out.symm,HB1.out⟩
   ·obtain rfl:k=r.n:=by omega
    have HT2:=Hd (show T=true by rw[HT.out];exact HQ.out)
    go_wp2_with fail
    go_ret
    exact⟨Af HT2.out.symm,HBk.out⟩
 ·rw[decide_eq_false hnn,Bool.false_and]at hT
  subst hT
  have h1:¬(r.n:Int)=(r2.n:Int):=by omega
  clear hA hA2 hS hS2 hs hs2 ih hB
  go_enter Tryz.func97,Tryz.ntmps97
  go_wp2_with fail
  go_ret
  exact⟨rfl,HB0⟩
theorem Ni (W:World) (r:Ac):∀(s:Value) (r2:Ac) (s2:Value) (w:World),Au W r s→Au W r2 s2→Below W.heap.size W w→
 Calls Tryz.prog 98 #[r.val s,r2.val s2] w fun e w'=>e= .returned (.bool (As r r2))∧Below w.heap.size w w':=by
 have step:∀(r:Ac) (s:Value) (r2:Ac) (s2:Value) (w:World),Au W r s→Au W r2 s2→Below W.heap.size W w→
  (∀j,j<r.n→∀(s:Value) (r2:Ac) (s2:Value) (w:World),Au W (r.args j) s→Au W r2 s2→Below W.heap.size W w→Calls Tryz.prog 98 #[(r.args j).val s,r2.val s2] w fun e w'=>e= .returned (.bool (As (r.args j) r2))∧Below w.heap.size w w')→
  Calls Tryz.prog 98 #[r.val s,r2.val s2] w fun e w'=>e= .returned (.bool (As r r2))∧Below w.heap.size w w':=by
  intro r s r2 s2 w hs hs2 hB ih
  obtain⟨a,c,rfl⟩:=hs.form
  obtain⟨a2,c2,rfl⟩:=hs2.form
  obtain⟨T,hT⟩:∃T,T=As r r2:=⟨_,rfl⟩
  rw[←hT]
  have HT:=Hd hT
  have HB0:=Hd (show∀o1 o2,Below w.heap.size w ((w.alloc o1).alloc o2)from fun o1 o2=>Aa (Ag _ _) (Ag _ _))
  have HQ:=Hd (fun(w':World) (h:Below W.heap.size W w')=>LC W r r2 a a2 c c2 hs hs2 w' h (fun j hj S S2 w'' h1 h2 h3=>ih j hj S (r2.args j) S2 w'' h1 h2 h3))
  have HBW:=Hd hB
  clear hT hs hs2 hB ih
  unfold Ac.val Be
  go_enter Tryz.func98,Tryz.ntmps98
  go_wp2_with (first
   |(go_at_call 97;(with_reducible refine(HQ.out _ (HBW.out.trans ((HB0.out _ _).mono HBW.out.size))).mono ?_);rintro e wx ⟨rfl,HBc⟩;have HBx:=Hd (Aa (HB0.out _ _) HBc);clear HBc)
   |fail)
  all_goals
   go_ret
   first
    |exact⟨Af ((HT.out.trans (Hb (by assumption) (EU (by assumption) (by assumption) (by assumption) (by assumption) (by assumption)))).symm),HBx.out⟩
    |exact⟨Af ((HT.out.trans (Cb (FX (by assumption)))).symm),HB0.out _ _⟩
    |exact⟨Af ((HT.out.trans (Cb (FW (by assumption)))).symm),HB0.out _ _⟩
    |exact⟨Af ((HT.out.trans (Cb (IR (by assumption)))).symm),HB0.out _ _⟩
    |exact⟨Af ((HT.out.trans (Cb (IQ (by assumption)))).symm),HB0.out _ _⟩
    |exact⟨Af ((HT.out.trans (Cb (ET (by assumption)))).symm),HB0.out _ _⟩
    |exact⟨Af ((HT.out.trans (Hg (by assumption))).symm),HB0.out _ _⟩
 induction r with
 |nil=>exact fun s r2 s2 w h1 h2 h3=>step .nil s r2 s2 w h1 h2 h3 (fun j hj=>absurd hj (Nat.not_lt_zero j))
 |node k d n f ih=>exact fun s r2 s2 w h1 h2 h3=>step (.node k d n f) s r2 s2 w h1 h2 h3 (fun j _=>ih j)
attribute [local go_sem] Oper.semAt_some
theorem BD {A B C:World} (h:Below A.heap.size A B) (k:Below B.heap.size B C):Below A.heap.size A C:=h.trans (k.mono h.size)
structure Ec (w:World) (g:Nat) (r:Ac) (s:Value) (wh:Int) (W:World):Prop where
 bl:Below w.heap.size w W
 ri:AH W g 0 r s
 bw:Blk W (g+1) 5 #[.int .u8 wh]
 br:Blk W (g+2) 42 #[.int .i64 0]
theorem Ec.below {w W W':World} {g:Nat} {r:Ac} {s:Value} {wh:Int} (h:Ec w g r s wh W) (hb:Below W.heap.size W W'):Ec w g r s wh W':=
 ⟨BD h.bl hb,h.ri.below hb,h.bw.below hb h.bw.lt,h.br.below hb h.br.lt⟩
theorem Ec.grown {w W W':World} {g:Nat} {r:Ac} {s:Value} {wh:Int} {row:Option Nat} {n0:Nat} (h:Ec w g r s wh W) (hg:W.grownBy W' row) (hr:∀r,row=some r→n0≤r∧∃o:Obj,W.heap[r]?=some o∧o.isCells=false) (hn:g+3≤n0) (hw:w.heap.size≤n0):Ec w g r s wh W':=by
 have hk:∀k,k<n0→k<W.heap.size→W'.heap[k]?=W.heap[k]?:=fun k h1 h2=>hg.block k h2 fun e=>by have:=(hr k e.symm).1;omega
 have kc:∀c,W'.cell? ⟨g,c,none⟩=W.cell? ⟨g,c,none⟩:=fun c=>World.cell?_of_block (w:=W) (hk g (by omega) h.ri.lt)
 exact⟨h.bl.trans ⟨hg.os,hg.tape,hg.output,hg.size,fun k h1=>hk k (by omega) (Nat.lt_of_lt_of_le h1 h.bl.size)⟩,
  ⟨(kc _).trans h.ri.c0,(kc _).trans h.ri.c1,(kc _).trans h.ri.c2,(kc _).trans h.ri.c3,(kc _).trans h.ri.c4,(kc _).trans h.ri.c5,(kc _).trans h.ri.c6,Nat.lt_of_lt_of_le h.ri.lt hg.size⟩,
  (hk _ (by omega) h.bw.lt).trans h.bw,(hk _ (by omega) h.br.lt).trans h.br⟩
theorem IZ {P:Program} {c:Code} {Q:Exit→Act→World→Prop} {a:Act} {w:World} (h:∀a0,a0=a→c.wp P Q a0 w):c.wp P Q a w:=h a rfl
theorem Jt {d:Ax} (h0:d.name.toList= []) (h1:d.op=0) (h2:d.ep=0) (h3:d.ver.toList= []) (h4:d.rel.toList= []):d.none=true:=by unfold Ax.none;rw[h0,h1,F1 h2 h3 h4];rfl
theorem Dt {d:Ax} (h:d.zero=false):d.none=false:=by unfold Ax.none;rw[h];simp
theorem E8 {d:Ax} (h:¬d.name.toList= []):d.none=false:=by
 unfold Ax.none
 have:d.name.toList.isEmpty=false:=by cases e:d.name.toList with|nil=>exact absurd e h|cons=>rfl
 rw[this];rfl
theorem IC {d:Ax} (h:¬d.op=0):d.none=false:=by
 unfold Ax.none
 have:(d.op==0)=false:=by simpa using h
 rw[this];simp
theorem ID {d:Ax} (h:¬d.ep=0):d.none=false:=Dt (Ip h)
theorem Gm {d:Ax} (h:¬d.ver.toList= []):d.none=false:=Dt (F2 h)
theorem Gn {d:Ax} (h:¬d.rel.toList= []):d.none=false:=Dt (F3 h)
abbrev Lv (x:By):Array Value:= #[.int .u8 x.kind,.string x.dep.name,.int .u8 x.dep.op,.int .i64 x.dep.ep,.string x.dep.ver,.string x.dep.rel,.slice x.a x.n x.c]
theorem Pj (W0:World) (r:Ac) (s:Value) (hs0:Au W0 r s) (w:World) (hB:Below W0.heap.size W0 w) (hc:r.count≤4611686018427387904) (wh:Int) (hwh:0≤wh∧wh<256) (hW:Bc w) (hO:Ops w):
 Calls Tryz.prog 79 #[r.val s,.int .u8 wh] w fun e w'=>e= .returned (.int .i64 (CS r wh))∧Below w.heap.size w w':=by
 have hs:=hs0.kept hB
 obtain⟨a,c,rfl⟩:=hs.form
 obtain⟨T,hT⟩:∃T,T=CS r wh:=⟨_,rfl⟩
 rw[←hT]
 obtain⟨g,hg⟩:∃g,g=w.heap.size:=⟨_,rfl⟩
 obtain⟨w1,hw1⟩:∃w1,w1=w.alloc (AT r (.slice a r.n c)):=⟨_,rfl⟩
 obtain⟨w2,hw2⟩:∃w2,w2=w1.alloc (.cells #[.int .u8 wh] 5):=⟨_,rfl⟩
 obtain⟨w3,hw3⟩:∃w3,w3=w2.alloc (.cells #[.int .i64 0] 42):=⟨_,rfl⟩
 have z1:w1.heap.size=g+1:=by rw[hw1,hg];simp
 have z2:w2.heap.size=g+2:=by rw[hw2];simp[z1]
 have z3:w3.heap.size=g+3:=by rw[hw3];simp[z2]
 have b1:Below w.heap.size w w1:=by rw[hw1];exact AL _ _
 have b2:Below w1.heap.size w1 w2:=by rw[hw2];exact AL _ _
 have b3:Below w2.heap.size w2 w3:=by rw[hw3];exact AL _ _
 have k1:AH w1 g 0 r (.slice a r.n c):=by rw[hw1,hg];exact C6 _ _ _
 have k2:Blk w2 (g+1) 5 #[.int .u8 wh]:=by rw[hw2,←z1];exact Blk.new _ _ _
 have k3:Blk w3 (g+2) 42 #[.int .i64 0]:=by rw[hw3,←z2];exact Blk.new _ _ _
 have HM3:=Hd (⟨BD b1 (BD b2 b3),(k1.below b2).below b3,k2.below b3 (by omega),k3⟩:Ec w g r (.slice a r.n c) wh w3)
 have HS:=Hd hs
 have HG:=Hd hg
 have HWO:=Hd (⟨hW,hO⟩:Bc w∧Ops w)
 have HCn:=Hd (fun(W:World) (hb:Below w.heap.size w W)=>M1 w r _ hs W hb hc)
 have HDp:=Hd (fun(W:World) (hb:Below w.heap.size w W)=>MV w r _ hs W hb hc)
 have HDc:=Hd (show r.depth≤r.count∧r.count≤4611686018427387904 from⟨Dm r,hc⟩)
 clear b1 b2 b3 k1 k2 k3 hs hs0 hB hW hO z1 z2 z3 hc
 obtain⟨d0,d1,d2,d3,d4,d5,d6,d7⟩:=HM3.out.ri
 have e0:w3.cell? ⟨g+1,0,none⟩=some (.int .u8 wh):=HM3.out.bw.cell 0
 have q0:w3.cell? ⟨g+2,0,none⟩=some (.int .i64 0):=HM3.out.br.cell 0
 have f0:w3.frozen? ⟨g+2,0,none⟩=false:=HM3.out.br.frozen 0
 have HBs:=Hd (show∀(W:World) (v:Value),Ec w g r (.slice a r.n c) wh W→Below w.heap.size w (W.setCell ⟨g+2,0,none⟩ v)from fun W v h=>h.bl.setCell (p:=⟨g+2,0,none⟩) (by show w.heap.size≤g+2;omega) v)
 refine(callsIn_wide (n:=5)).1 ?_
 refine callsIn_of_wp_marks Tryz.func79 rfl trivial ?_ rfl
 simp only[Tryz.ntmps79,List.size_toArray,List.length_cons,List.length_nil,Nat.reduceAdd,Nat.reduceSub,Array.replicate_succ,Array.replicate_zero,List.push_toArray,List.append_toArray,List.nil_append,List.cons_append]
 unfold Ac.val Be
 refine wpIn_wide.2 ?_
 go_upto_region 1 with fail
 rw[←hw1,←hg,←hw2,←hw3]
 clear hw1 hw2 hw3 hg
 by_cases h1:wh<1
 ·have hd:decide (wh<1)=true:=by simpa using h1
  obtain rfl:T=1:=by rw[hT];unfold CS;rw[if_pos (.inl h1)]
  clear hT h1
  go_wp2_with fail
  exact⟨_,Av rfl _ _ (g+2) (.int .i64 1) rfl (Fa (HM3.out.br.set_ 0 _)),rfl,HBs.out w3 _ HM3.out⟩
 ·have hd:decide (wh<1)=false:=by simpa using h1
  by_cases h3:3<wh
  ·have hd3:decide (3<wh)=true:=by simpa using h3
   obtain rfl:T=1:=by rw[hT];unfold CS;rw[if_pos (.inr h3)]
   clear hT h1 h3
   go_wp2_with fail
   exact⟨_,Av rfl _ _ (g+2) (.int .i64 1) rfl (Fa (HM3.out.br.set_ 0 _)),rfl,HBs.out w3 _ HM3.out⟩
  ·have hd3:decide (3<wh)=false:=by simpa using h3
   obtain⟨n1,hn1⟩:∃n1,n1=r.count:=⟨_,rfl⟩
   obtain⟨n2,hn2⟩:∃n2,n2=r.depth:=⟨_,rfl⟩
   have hT2:T=if 24<n1 then 40 else if 8<n2 then 21 else if (r.parts false).all (Cw wh)then 0 else 4:=by rw[hT,hn1,hn2];unfold CS;rw[if_neg (by omega)]
   have HC1:=Hd (HCn.out w3 HM3.out.bl)
   rw[←hn1]at HC1
   have hA:=HM3.out
   clear hT h1 h3
   by_cases h24:24<n1
   ·rw[if_pos h24]at hT2
    obtain rfl:T=40:=hT2
    have hd24:decide ((24:Int)<(n1:Int))=true:=by rw[decide_eq_true];omega
    have hd24':(24:Int)<(n1:Int):=by omega
    clear h24
    go_wp2_with (first
     |(go_at_call 126;(with_reducible refine(HC1.out).mono ?_);rintro e w4 ⟨rfl,HBc⟩;have HM4:=Hd (HM3.out.below HBc);clear HBc;have q4:w4.cell? ⟨g+2,0,none⟩=some (.int .i64 0):=HM4.out.br.cell 0;have f4:w4.frozen? ⟨g+2,0,none⟩=false:=HM4.out.br.frozen 0)
     |fail)
    exact⟨_,Av rfl _ _ (g+2) (.int .i64 40) rfl (Fa (HM4.out.br.set_ 0 _)),rfl,HBs.out w4 _ HM4.out⟩
   ·rw[if_neg h24]at hT2
    have hd24:decide ((24:Int)<(n1:Int))=false:=by rw[decide_eq_false];omega
    have hd24':¬(24:Int)<(n1:Int):=by omega
    have HC2:=Hd (show∀W,Below w.heap.size w W→Calls Tryz.prog 127 #[r.val (.slice a r.n c)] W fun e w'=>e= .returned (.int .i64 (n2:Int))∧Below W.heap.size W w' from fun W hb=>by rw[hn2];exact HDp.out W hb)
    clear h24 hA
    by_cases h8:8<n2
    ·rw[if_pos h8]at hT2
     obtain rfl:T=21:=hT2
     have hd8:decide ((8:Int)<(n2:Int))=true:=by rw[decide_eq_true];omega
     have hd8':(8:Int)<(n2:Int):=by omega
     clear h8
     go_wp2_with (first
      |(go_at_call 126;(with_reducible refine(HC1.out).mono ?_);rintro e w4 ⟨rfl,HBc⟩;have HM4:=Hd (HM3.out.below HBc);clear HBc;obtain⟨x0,x1,x2,x3,x4,x5,x6,x7⟩:=HM4.out.ri)
      |(go_at_call 127;(with_reducible refine(HC2.out _ HM4.out.bl).mono ?_);rintro e w5 ⟨rfl,HBc⟩;have HM5:=Hd (HM4.out.below HBc);clear HBc;have q5:w5.cell? ⟨g+2,0,none⟩=some (.int .i64 0):=HM5.out.br.cell 0;have f5:w5.frozen? ⟨g+2,0,none⟩=false:=HM5.out.br.frozen 0)
      |fail)
     exact⟨_,Av rfl _ _ (g+2) (.int .i64 21) rfl (Fa (HM5.out.br.set_ 0 _)),rfl,HBs.out w5 _ HM5.out⟩
    ·rw[if_neg h8]at hT2
     have hd8:decide ((8:Int)<(n2:Int))=false:=by rw[decide_eq_false];omega
     have hd8':¬(8:Int)<(n2:Int):=by omega
     have HT2:=Hd hT2
     clear h8 hT2
     have HPa:=Hd (Hs r (.slice a r.n c))
     go_wp2_with (first
      |(go_at_call 126;(with_reducible refine(HC1.out).mono ?_);rintro e w4 ⟨rfl,HBc⟩;have HM4:=Hd (HM3.out.below HBc);clear HBc;obtain⟨x0,x1,x2,x3,x4,x5,x6,x7⟩:=HM4.out.ri)
      |(go_at_call 127;(with_reducible refine(HC2.out _ HM4.out.bl).mono ?_);rintro e w5 ⟨rfl,HBc⟩;have HM5:=Hd (HM4.out.below HBc);clear HBc;obtain⟨y0,y1,y2,y3,y4,y5,y6,y7⟩:=HM5.out.ri)
      |(go_at_call 128;(with_reducible refine(HPa.out _).mono ?_);rintro e w6 ⟨rfl,hw6⟩;have HW6:=Hd hw6;clear hw6)
      |fail)
     have hw6:=HW6.out
     have hb56:Below w5.heap.size w5 w6:=by rw[hw6];exact((Below.refl _ w5).alloc (Nat.le_refl _) _).alloc (by simp) _
     have hz6:w6.heap.size=w5.heap.size+2:=by rw[hw6];simp
     have hself:Blk w6 (w5.heap.size+1) 191 #[Et (w5.heap.size+1)]:=by
      rw[hw6]
      have:=Blk.new (w5.alloc (AT r (.slice a r.n c))) 191 #[Et (w5.heap.size+1)]
      rw[World.size_alloc]at this
      exact this
     have hrb:A6 w6 w5.heap.size r (.slice a r.n c):=by
      rw[hw6]
      exact(A6.new w5 r (.slice a r.n c)).below (AL _ _)
     have h5g:g+2<w5.heap.size:=HM5.out.br.lt
     have h5w:w.heap.size≤w5.heap.size:=HM5.out.bl.size
     have hwg:w.heap.size≤g+2:=by rw[HG.out];omega
     have HM6:=Hd (HM5.out.below hb56)
     have HST:=Hd (Fz w w6 (w5.heap.size+1) w5.heap.size (g+2) 4 hwg (by omega) r _ HS.out HM6.out.bl (by omega) (by omega) hself hrb)
     clear hself hrb hw6 hb56
     refine IZ ?_
     intro a0 ha0
     refine wpIn_wide.1 (wpIn_rangeFunc_ownH (F:=Fence.wide) (n:=5) rfl (by omega) (gf:=164) (lb:= #[.pointer (some ⟨w5.heap.size+1,0,none⟩),.pointer (some ⟨w5.heap.size,0,none⟩)]) (by rw[ha0];rfl) trivial (enters_of Tryz.func164 (by kernel_rfl) rfl) HST.out Kp.t (Kp.b (by omega)) (Below.refl _ _) (fun _=>rfl)
      (fun pre W=>Ec w g r (.slice a r.n c) wh W∧pre.all (fun x=>Cw wh x.key)=true)
      (fun cd pre W=>cd= .ret∧Below w.heap.size w W∧Blk W (g+2) 42 #[.int .i64 4]∧pre.all (fun x=>Cw wh x.key)=false)
      (fun s A B row hs hg' hr=>⟨hs.1.grown hg' hr (by omega) (by omega),hs.2⟩)
      (fun cd s A B row hs hg' hr=>⟨hs.1,hs.2.1.trans ⟨hg'.os,hg'.tape,hg'.output,hg'.size,fun k h1=>hg'.block k (Nat.lt_of_lt_of_le h1 hs.2.1.size) (fun e=>by have:=(hr k e.symm).1;omega)⟩,DY hs.2.2.1 hg' hr,hs.2.2.2⟩)
      ⟨HM6.out,rfl⟩
      (fun x a' W=>∃Bx,g+2<Bx∧Blk W Bx 34 (Lv x)∧a'={tmps:=(((a0.tmps.setIfInBounds 25 (Be x.kind x.dep (.slice x.a x.n x.c))).setIfInBounds 26 (.bool x.alone)).setIfInBounds 5 (.pointer (some ⟨Bx,0,none⟩))).setIfInBounds 6 (.bool x.alone),defers:= []})
      (fun x a' s A B row hs hg' hr=>by
        obtain⟨Bx,h1,h2,h3⟩:=hs
        exact⟨Bx,h1,DY h2 hg' hr,h3⟩) ?assign ?body ?done ?stop)
     case assign=>
      rintro l pre x W K ⟨hm,hp⟩ hK
      subst ha0
      have HKK:=Hd hK
      have HMW:=Hd hm
      clear hK hm
      gi_wp2
      refine HKK.out _ _ ((KeepsOthers.alloc _ _).from _) (Kp.of_below HMW.out.bl.size (AL W (.cells (Lv x) 34))) ⟨HMW.out.below (AL W (.cells (Lv x) 34)),hp⟩ ⟨W.heap.size,HMW.out.br.lt,Blk.new W 34 (Lv x),?_⟩
      rfl
     case body=>
      rintro l pre x a' W hl ⟨rr,hrr⟩ ⟨hm,hp⟩ ⟨Bx,hBx,hbx,rfl⟩ hlen
      subst ha0
      simp only[List.setIfInBounds_toArray,List.set_cons_succ,List.set_cons_zero]
      obtain⟨q,hq⟩:∃q,q=Fh x.kind:=⟨_,rfl⟩
      have HOf:=Hd (Qt x.kind x.fit.2.1 x.fit.2.2 W)
      rw[←hq]at HOf
      have HQk:=Hd (show Cw wh x.key=(!(decide (q.wher<wh)) && (!(x.alone && !q.alone) && (!(decide ((x.n:Int)<q.least)) && (!(decide (q.most<(x.n:Int))) && (if x.kind=1 then Ca x.dep else x.dep.none))))) by rw[hq];rfl)
      have HMW:=Hd hm
      have HBX:=Hd hbx
      have HP:=Hd hp
      have HDM:=Hd (fun(W':World) (h1:Bc W') (h2:Ops W')=>GI x.dep W' x.fit.1 h1 h2)
      have p0:W.cell? ⟨Bx,0,none⟩=some (.int .u8 x.kind):=hbx.cell 0
      have HGo:=Hd (show∀W',Below W.heap.size W W'→Cw wh x.key=true→KeepsFrom w6.heap.size W W'∧Kp (g+2) w.heap.size W W'∧Ec w g r (.slice a r.n c) wh W'∧(pre++ [x]).all (fun x=>Cw wh x.key)=true from fun W' hb hk=>
       ⟨KC.keeps hb _,Kp.of_below hm.bl.size hb,hm.below hb,by rw[List.all_append,hp];simp[hk]⟩)
      have HLe:=Hd (show∀W',Below W.heap.size W W'→Cw wh x.key=false→KeepsFrom w6.heap.size W (W'.setCell ⟨g+2,0,none⟩ (.int .i64 4))∧(Below w.heap.size w (W'.setCell ⟨g+2,0,none⟩ (.int .i64 4))∧Blk (W'.setCell ⟨g+2,0,none⟩ (.int .i64 4)) (g+2) 42 #[.int .i64 4]∧(pre++ [x]).all (fun x=>Cw wh x.key)=false)from fun W' hb hk=>
       ⟨(KC.keeps hb _).trans ((KeepsOthers.setCell _ _ _).from _),(hm.below hb).bl.setCell (p:=⟨g+2,0,none⟩) hwg _,(hm.below hb).br.set_ 0 _,by rw[List.all_append];simp[hk]⟩)
      have HLa:=Hd (show∀W' o,Below W.heap.size W W'→Cw wh x.key=false→KeepsFrom w6.heap.size W ((W'.setCell ⟨g+2,0,none⟩ (.int .i64 4)).alloc o)∧(Below w.heap.size w ((W'.setCell ⟨g+2,0,none⟩ (.int .i64 4)).alloc o)∧Blk ((W'.setCell ⟨g+2,0,none⟩ (.int .i64 4)).alloc o) (g+2) 42 #[.int .i64 4]∧(pre++ [x]).all (fun x=>Cw wh x.key)=false)from fun W' o hb hk=>by
       obtain⟨h1,h2,h3,h4⟩:=HLe.out W' hb hk
       exact⟨h1.trans ((KeepsOthers.alloc _ _).from _),BD h2 (AL _ _),h3.alloc _,h4⟩)
      clear hm hbx hp hq HCn HDp HM3 HM6 HST HC1 HC2 HPa d0 d1 d2 d3 d4 d5 d6 d7 e0 q0 f0 x0 x1 x2 x3 x4 x5 x6 x7 y0 y1 y2 y3 y4 y5 y6 y7
      have HWW:=Hd (show∀W2,Below W.heap.size W W2→Bc W2∧Ops W2 from fun W2 hb=>⟨HWO.out.1.below (HMW.out.below hb).bl,HWO.out.2.below (HMW.out.below hb).bl⟩)
      by_cases hA:q.wher<wh
      ·have hdA:decide (q.wher<wh)=true:=by simpa using hA
       gi_wp2_with (first
        |(refine⟨trivial,?_⟩;gi_at_call 129;refine(CallsIn.inRound l (callsIn_wide.2 HOf.out)).mono ?_;rintro e w7 ⟨rfl,hb7⟩;have HB7:=Hd hb7;have HM7:=Hd (HMW.out.below hb7);have HX7:=Hd (HBX.out.below hb7 HBX.out.lt);clear hb7;have l1:g+1<w7.heap.size:=HM7.out.bw.lt;have l2:g+2<w7.heap.size:=HM7.out.br.lt;have l3:Bx<w7.heap.size:=HX7.out.lt;have t0:w7.cell? ⟨g+1,0,none⟩=some (.int .u8 wh):=HM7.out.bw.cell 0;have u0:w7.cell? ⟨g+2,0,none⟩=some (.int .i64 0):=HM7.out.br.cell 0;have v0:w7.frozen? ⟨g+2,0,none⟩=false:=HM7.out.br.frozen 0;have p70:w7.cell? ⟨Bx,0,none⟩=some (.int .u8 x.kind):=HX7.out.cell 0;have p71:w7.cell? ⟨Bx,1,none⟩=some (.string x.dep.name):=HX7.out.cell 1;have p72:w7.cell? ⟨Bx,2,none⟩=some (.int .u8 x.dep.op):=HX7.out.cell 2;have p73:w7.cell? ⟨Bx,3,none⟩=some (.int .i64 x.dep.ep):=HX7.out.cell 3;have p74:w7.cell? ⟨Bx,4,none⟩=some (.string x.dep.ver):=HX7.out.cell 4;have p75:w7.cell? ⟨Bx,5,none⟩=some (.string x.dep.rel):=HX7.out.cell 5;have p76:w7.cell? ⟨Bx,6,none⟩=some (.slice x.a x.n x.c):=HX7.out.cell 6)
        |fail)
       have hkf:Cw wh x.key=false:=by rw[HQk.out];rw[hdA];rfl
       exact⟨(HLa.out w7 _ HB7.out hkf).1,rfl,(HLa.out w7 _ HB7.out hkf).2⟩
      ·have hdA:decide (q.wher<wh)=false:=by simpa using hA
       have hB2:(x.alone=true∧q.alone=false)∨(x.alone=true∧q.alone=true)∨x.alone=false:=by cases x.alone<;>cases q.alone<;>simp
       rcases hB2 with ⟨hx1,hq1⟩|hB3
       ·have HF:=Hd hx1
        have HF2:=Hd hq1
        gi_wp2_with (first
         |(refine⟨trivial,?_⟩;gi_at_call 129;refine(CallsIn.inRound l (callsIn_wide.2 HOf.out)).mono ?_;rintro e w7 ⟨rfl,hb7⟩;have HB7:=Hd hb7;have HM7:=Hd (HMW.out.below hb7);have HX7:=Hd (HBX.out.below hb7 HBX.out.lt);clear hb7;have l1:g+1<w7.heap.size:=HM7.out.bw.lt;have l2:g+2<w7.heap.size:=HM7.out.br.lt;have l3:Bx<w7.heap.size:=HX7.out.lt;have t0:w7.cell? ⟨g+1,0,none⟩=some (.int .u8 wh):=HM7.out.bw.cell 0;have u0:w7.cell? ⟨g+2,0,none⟩=some (.int .i64 0):=HM7.out.br.cell 0;have v0:w7.frozen? ⟨g+2,0,none⟩=false:=HM7.out.br.frozen 0;have p70:w7.cell? ⟨Bx,0,none⟩=some (.int .u8 x.kind):=HX7.out.cell 0;have p71:w7.cell? ⟨Bx,1,none⟩=some (.string x.dep.name):=HX7.out.cell 1;have p72:w7.cell? ⟨Bx,2,none⟩=some (.int .u8 x.dep.op):=HX7.out.cell 2;have p73:w7.cell? ⟨Bx,3,none⟩=some (.int .i64 x.dep.ep):=HX7.out.cell 3;have p74:w7.cell? ⟨Bx,4,none⟩=some (.string x.dep.ver):=HX7.out.cell 4;have p75:w7.cell? ⟨Bx,5,none⟩=some (.string x.dep.rel):=HX7.out.cell 5;have p76:w7.cell? ⟨Bx,6,none⟩=some (.slice x.a x.n x.c):=HX7.out.cell 6)
         |fail)
        have hkf:Cw wh x.key=false:=by rw[HQk.out];rw[hdA,HF.out,HF2.out];rfl
        exact⟨(HLa.out w7 _ HB7.out hkf).1,rfl,(HLa.out w7 _ HB7.out hkf).2⟩
       ·have HBk:=Hd (show(x.alone && !q.alone)=false by rcases hB3 with ⟨h1,h2⟩|h1<;>simp[*])
        have hxq:x.alone=false∨x.alone=true∧q.alone=true:=hB3.symm
        clear hB3
        by_cases hC:(x.n:Int)<q.least
        ·have hdC:decide ((x.n:Int)<q.least)=true:=by simpa using hC
         rcases hxq with hx1|⟨hx1,hq1⟩
         all_goals
          gi_wp2_with (first
           |(refine⟨trivial,?_⟩;gi_at_call 129;refine(CallsIn.inRound l (callsIn_wide.2 HOf.out)).mono ?_;rintro e w7 ⟨rfl,hb7⟩;have HB7:=Hd hb7;have HM7:=Hd (HMW.out.below hb7);have HX7:=Hd (HBX.out.below hb7 HBX.out.lt);clear hb7;have l1:g+1<w7.heap.size:=HM7.out.bw.lt;have l2:g+2<w7.heap.size:=HM7.out.br.lt;have l3:Bx<w7.heap.size:=HX7.out.lt;have t0:w7.cell? ⟨g+1,0,none⟩=some (.int .u8 wh):=HM7.out.bw.cell 0;have u0:w7.cell? ⟨g+2,0,none⟩=some (.int .i64 0):=HM7.out.br.cell 0;have v0:w7.frozen? ⟨g+2,0,none⟩=false:=HM7.out.br.frozen 0;have p70:w7.cell? ⟨Bx,0,none⟩=some (.int .u8 x.kind):=HX7.out.cell 0;have p71:w7.cell? ⟨Bx,1,none⟩=some (.string x.dep.name):=HX7.out.cell 1;have p72:w7.cell? ⟨Bx,2,none⟩=some (.int .u8 x.dep.op):=HX7.out.cell 2;have p73:w7.cell? ⟨Bx,3,none⟩=some (.int .i64 x.dep.ep):=HX7.out.cell 3;have p74:w7.cell? ⟨Bx,4,none⟩=some (.string x.dep.ver):=HX7.out.cell 4;have p75:w7.cell? ⟨Bx,5,none⟩=some (.string x.dep.rel):=HX7.out.cell 5;have p76:w7.cell? ⟨Bx,6,none⟩=some (.slice x.a x.n x.c):=HX7.out.cell 6)
           |fail)
          have hkf:Cw wh x.key=false:=by rw[HQk.out];rw[hdA,HBk.out,hdC];rfl
          exact⟨(HLa.out w7 _ HB7.out hkf).1,rfl,(HLa.out w7 _ HB7.out hkf).2⟩
        ·have hdC:decide ((x.n:Int)<q.least)=false:=by simpa using hC
         by_cases hD2:q.most<(x.n:Int)
         ·have hdD:decide (q.most<(x.n:Int))=true:=by simpa using hD2
          rcases hxq with hx1|⟨hx1,hq1⟩
          all_goals
           gi_wp2_with (first
            |(refine⟨trivial,?_⟩;gi_at_call 129;refine(CallsIn.inRound l (callsIn_wide.2 HOf.out)).mono ?_;rintro e w7 ⟨rfl,hb7⟩;have HB7:=Hd hb7;have HM7:=Hd (HMW.out.below hb7);have HX7:=Hd (HBX.out.below hb7 HBX.out.lt);clear hb7;have l1:g+1<w7.heap.size:=HM7.out.bw.lt;have l2:g+2<w7.heap.size:=HM7.out.br.lt;have l3:Bx<w7.heap.size:=HX7.out.lt;have t0:w7.cell? ⟨g+1,0,none⟩=some (.int .u8 wh):=HM7.out.bw.cell 0;have u0:w7.cell? ⟨g+2,0,none⟩=some (.int .i64 0):=HM7.out.br.cell 0;have v0:w7.frozen? ⟨g+2,0,none⟩=false:=HM7.out.br.frozen 0;have p70:w7.cell? ⟨Bx,0,none⟩=some (.int .u8 x.kind):=HX7.out.cell 0;have p71:w7.cell? ⟨Bx,1,none⟩=some (.string x.dep.name):=HX7.out.cell 1;have p72:w7.cell? ⟨Bx,2,none⟩=some (.int .u8 x.dep.op):=HX7.out.cell 2;have p73:w7.cell? ⟨Bx,3,none⟩=some (.int .i64 x.dep.ep):=HX7.out.cell 3;have p74:w7.cell? ⟨Bx,4,none⟩=some (.string x.dep.ver):=HX7.out.cell 4;have p75:w7.cell? ⟨Bx,5,none⟩=some (.string x.dep.rel):=HX7.out.cell 5;have p76:w7.cell? ⟨Bx,6,none⟩=some (.slice x.a x.n x.c):=HX7.out.cell 6)
            |fail)
           have hkf:Cw wh x.key=false:=by rw[HQk.out];rw[hdA,HBk.out,hdC,hdD];rfl
           exact⟨(HLa.out w7 _ HB7.out hkf).1,rfl,(HLa.out w7 _ HB7.out hkf).2⟩
         ·have hdD:decide (q.most<(x.n:Int))=false:=by simpa using hD2
          have HQ2:=Hd (show Cw wh x.key=if x.kind=1 then Ca x.dep else x.dep.none by rw[HQk.out,hdA,HBk.out,hdC,hdD];rfl)
          by_cases hk1:x.kind=1
          ·have HQ3:=Hd (show Cw wh x.key=Ca x.dep by rw[HQ2.out,if_pos hk1])
           have HK1:=Hd hk1
           clear hk1
           obtain⟨dv,hdv⟩:∃dv,dv=Ca x.dep:=⟨_,rfl⟩
           rw[←hdv]at HQ3 HDM
           clear hdv
           cases dv with
           |true=>
            rcases hxq with hx1|⟨hx1,hq1⟩
            all_goals
             gi_wp2_with (first
              |(refine⟨trivial,?_⟩;gi_at_call 129;refine(CallsIn.inRound l (callsIn_wide.2 HOf.out)).mono ?_;rintro e w7 ⟨rfl,hb7⟩;have HB7:=Hd hb7;have HM7:=Hd (HMW.out.below hb7);have HX7:=Hd (HBX.out.below hb7 HBX.out.lt);clear hb7;have l1:g+1<w7.heap.size:=HM7.out.bw.lt;have l2:g+2<w7.heap.size:=HM7.out.br.lt;have l3:Bx<w7.heap.size:=HX7.out.lt;have t0:w7.cell? ⟨g+1,0,none⟩=some (.int .u8 wh):=HM7.out.bw.cell 0;have u0:w7.cell? ⟨g+2,0,none⟩=some (.int .i64 0):=HM7.out.br.cell 0;have v0:w7.frozen? ⟨g+2,0,none⟩=false:=HM7.out.br.frozen 0;have p70:w7.cell? ⟨Bx,0,none⟩=some (.int .u8 x.kind):=HX7.out.cell 0;have p71:w7.cell? ⟨Bx,1,none⟩=some (.string x.dep.name):=HX7.out.cell 1;have p72:w7.cell? ⟨Bx,2,none⟩=some (.int .u8 x.dep.op):=HX7.out.cell 2;have p73:w7.cell? ⟨Bx,3,none⟩=some (.int .i64 x.dep.ep):=HX7.out.cell 3;have p74:w7.cell? ⟨Bx,4,none⟩=some (.string x.dep.ver):=HX7.out.cell 4;have p75:w7.cell? ⟨Bx,5,none⟩=some (.string x.dep.rel):=HX7.out.cell 5;have p76:w7.cell? ⟨Bx,6,none⟩=some (.slice x.a x.n x.c):=HX7.out.cell 6;have hk1:=HK1.out)
              |(refine⟨trivial,?_⟩;gi_at_call 74;refine(CallsIn.inRound l (callsIn_wide.2 (HDM.out _ (HWW.out _ (BD HB7.out (AL w7 _))).1 (HWW.out _ (BD HB7.out (AL w7 _))).2))).mono ?_;rintro e w9 ⟨rfl,hb9⟩;have HB9:=Hd (BD (BD HB7.out (AL w7 _)) hb9);clear hb9;have p90:w9.cell? ⟨Bx,0,none⟩=some (.int .u8 x.kind):=(HBX.out.below HB9.out HBX.out.lt).cell 0;have HM9:=Hd (HMW.out.below HB9.out);have u9:w9.cell? ⟨g+2,0,none⟩=some (.int .i64 0):=HM9.out.br.cell 0;have v9:w9.frozen? ⟨g+2,0,none⟩=false:=HM9.out.br.frozen 0)
              |fail)
             exact HGo.out w9 HB9.out HQ3.out
           |false=>
            rcases hxq with hx1|⟨hx1,hq1⟩
            all_goals
             gi_wp2_with (first
              |(refine⟨trivial,?_⟩;gi_at_call 129;refine(CallsIn.inRound l (callsIn_wide.2 HOf.out)).mono ?_;rintro e w7 ⟨rfl,hb7⟩;have HB7:=Hd hb7;have HM7:=Hd (HMW.out.below hb7);have HX7:=Hd (HBX.out.below hb7 HBX.out.lt);clear hb7;have l1:g+1<w7.heap.size:=HM7.out.bw.lt;have l2:g+2<w7.heap.size:=HM7.out.br.lt;have l3:Bx<w7.heap.size:=HX7.out.lt;have t0:w7.cell? ⟨g+1,0,none⟩=some (.int .u8 wh):=HM7.out.bw.cell 0;have u0:w7.cell? ⟨g+2,0,none⟩=some (.int .i64 0):=HM7.out.br.cell 0;have v0:w7.frozen? ⟨g+2,0,none⟩=false:=HM7.out.br.frozen 0;have p70:w7.cell? ⟨Bx,0,none⟩=some (.int .u8 x.kind):=HX7.out.cell 0;have p71:w7.cell? ⟨Bx,1,none⟩=some (.string x.dep.name):=HX7.out.cell 1;have p72:w7.cell? ⟨Bx,2,none⟩=some (.int .u8 x.dep.op):=HX7.out.cell 2;have p73:w7.cell? ⟨Bx,3,none⟩=some (.int .i64 x.dep.ep):=HX7.out.cell 3;have p74:w7.cell? ⟨Bx,4,none⟩=some (.string x.dep.ver):=HX7.out.cell 4;have p75:w7.cell? ⟨Bx,5,none⟩=some (.string x.dep.rel):=HX7.out.cell 5;have p76:w7.cell? ⟨Bx,6,none⟩=some (.slice x.a x.n x.c):=HX7.out.cell 6;have hk1:=HK1.out)
              |(refine⟨trivial,?_⟩;gi_at_call 74;refine(CallsIn.inRound l (callsIn_wide.2 (HDM.out _ (HWW.out _ (BD HB7.out (AL w7 _))).1 (HWW.out _ (BD HB7.out (AL w7 _))).2))).mono ?_;rintro e w9 ⟨rfl,hb9⟩;have HB9:=Hd (BD (BD HB7.out (AL w7 _)) hb9);clear hb9;have p90:w9.cell? ⟨Bx,0,none⟩=some (.int .u8 x.kind):=(HBX.out.below HB9.out HBX.out.lt).cell 0;have HM9:=Hd (HMW.out.below HB9.out);have u9:w9.cell? ⟨g+2,0,none⟩=some (.int .i64 0):=HM9.out.br.cell 0;have v9:w9.frozen? ⟨g+2,0,none⟩=false:=HM9.out.br.frozen 0)
              |fail)
             have hL:=HLe.out w9 HB9.out HQ3.out
             exact⟨hL.1,rfl,hL.2⟩
          ·have HQ3:=Hd (show Cw wh x.key=x.dep.none by rw[HQ2.out,if_neg hk1])
           have HK1:=Hd hk1
           clear hk1
           rcases hxq with hx1|⟨hx1,hq1⟩
           all_goals
            gi_wp2_with (first
             |(refine⟨trivial,?_⟩;gi_at_call 129;refine(CallsIn.inRound l (callsIn_wide.2 HOf.out)).mono ?_;rintro e w7 ⟨rfl,hb7⟩;have HB7:=Hd hb7;have HM7:=Hd (HMW.out.below hb7);have HX7:=Hd (HBX.out.below hb7 HBX.out.lt);clear hb7;have l1:g+1<w7.heap.size:=HM7.out.bw.lt;have l2:g+2<w7.heap.size:=HM7.out.br.lt;have l3:Bx<w7.heap.size:=HX7.out.lt;have t0:w7.cell? ⟨g+1,0,none⟩=some (.int .u8 wh):=HM7.out.bw.cell 0;have u0:w7.cell? ⟨g+2,0,none⟩=some (.int .i64 0):=HM7.out.br.cell 0;have v0:w7.frozen? ⟨g+2,0,none⟩=false:=HM7.out.br.frozen 0;have p70:w7.cell? ⟨Bx,0,none⟩=some (.int .u8 x.kind):=HX7.out.cell 0;have p71:w7.cell? ⟨Bx,1,none⟩=some (.string x.dep.name):=HX7.out.cell 1;have p72:w7.cell? ⟨Bx,2,none⟩=some (.int .u8 x.dep.op):=HX7.out.cell 2;have p73:w7.cell? ⟨Bx,3,none⟩=some (.int .i64 x.dep.ep):=HX7.out.cell 3;have p74:w7.cell? ⟨Bx,4,none⟩=some (.string x.dep.ver):=HX7.out.cell 4;have p75:w7.cell? ⟨Bx,5,none⟩=some (.string x.dep.rel):=HX7.out.cell 5;have p76:w7.cell? ⟨Bx,6,none⟩=some (.slice x.a x.n x.c):=HX7.out.cell 6;have hk1:=HK1.out)
             |fail)
            refine⟨trivial,?_⟩
            gi_wp2
            all_goals first
             |exact HGo.out _ (BD HB7.out (AL w7 _)) (HQ3.out.trans (Jt (by assumption) (by assumption) (by assumption) (by assumption) (by assumption)))
             |exact⟨(HLa.out w7 _ HB7.out (HQ3.out.trans (E8 (by assumption)))).1,rfl,(HLa.out w7 _ HB7.out (HQ3.out.trans (E8 (by assumption)))).2⟩
             |exact⟨(HLa.out w7 _ HB7.out (HQ3.out.trans (IC (by assumption)))).1,rfl,(HLa.out w7 _ HB7.out (HQ3.out.trans (IC (by assumption)))).2⟩
             |exact⟨(HLa.out w7 _ HB7.out (HQ3.out.trans (ID (by assumption)))).1,rfl,(HLa.out w7 _ HB7.out (HQ3.out.trans (ID (by assumption)))).2⟩
             |exact⟨(HLa.out w7 _ HB7.out (HQ3.out.trans (Gm (by assumption)))).1,rfl,(HLa.out w7 _ HB7.out (HQ3.out.trans (Gm (by assumption)))).2⟩
             |exact⟨(HLa.out w7 _ HB7.out (HQ3.out.trans (Gn (by assumption)))).1,rfl,(HLa.out w7 _ HB7.out (HQ3.out.trans (Gn (by assumption)))).2⟩
     case done=>
      rintro D ys W hD hS ⟨hm,hp⟩ hKD
      have hT:T=0:=by
       have h:=HT2.out
       rw[←hS,List.all_map]at h
       rw[h]
       exact if_pos hp
      subst hT
      have u0:W.cell? ⟨g+2,0,none⟩=some (.int .i64 0):=hm.br.cell 0
      have v0:W.frozen? ⟨g+2,0,none⟩=false:=hm.br.frozen 0
      have HMW:=Hd hm
      have HKD:=Hd hKD
      have HD2:=Hd (show w6.heap.size≤D from hD)
      subst ha0
      clear hm hp hS hKD hD HST HM6
      go_wp2_with fail
      have hKs:=(KeepsOthers.setCell W ⟨g+2,0,none⟩ (.int .i64 0)).same D _ HKD.out rfl
      refine⟨by simp,.inl ⟨_,_,rfl,run_takeDeferred hKs,?_⟩⟩
      exact⟨_,Av rfl _ _ (g+2) (.int .i64 0) rfl (Fa ((HMW.out.br.set_ 0 _).grown (grownBy_putObj' _ D _) (fun e=>by injection e with e;have:=HD2.out;omega))),rfl,
       (HMW.out.bl.setCell (p:=⟨g+2,0,none⟩) hwg _).trans (belowK_b (w:=w) (Nat.le_refl _) _ D _ (.deferred none) (by have:=HD2.out;omega) hKs rfl rfl)⟩
     case stop=>
      rintro D cd ys W hD hS ⟨rfl,hbl,hbk,hf⟩ hKD
      have hT:T=4:=by
       have h:=HT2.out
       have h2:(r.parts false).all (Cw wh)=false:=by
        obtain⟨zs,hz⟩:=hS
        rw[←hz,List.all_append,List.all_map]
        have:ys.all (Cw wh ∘ By.key)=false:=hf
        rw[this];rfl
       rw[h,h2];rfl
      subst hT
      subst ha0
      have HBL:=Hd hbl
      have HBK:=Hd hbk
      have HKD:=Hd hKD
      have HD2:=Hd (show w6.heap.size≤D from hD)
      clear hbl hbk hf hS hKD hD HST HM6
      gi_wp2
      refine⟨by simp,.inl ⟨_,_,rfl,run_takeDeferred HKD.out,?_⟩⟩
      exact⟨_,Av rfl _ _ (g+2) (.int .i64 4) rfl (Fa (HBK.out.grown (grownBy_putObj' _ D _) (fun e=>by injection e with e;have:=HD2.out;omega))),rfl,
       HBL.out.trans (belowK_b (w:=w) (Nat.le_refl _) _ D _ (.deferred none) (by have:=HD2.out;omega) HKD.out rfl rfl)⟩
end Go.Proofs.YtdpjjnbelgaagaaGreatDoor
