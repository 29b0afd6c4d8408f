/- Names: dep.Name, File; the words that are no names lie as the program's text lays them. Conditions: as each theorem names them. -/
import Derived.Test.YtdpjjnbelgaagaaGreatDoorG01
import Derived.Laws.Rows
import Derived.Lib.OthersKept
import Derived.Laws.RangeAny
import Derived.LoopTactic
import Derived.Maps.OwnOps
import Derived.Maps.OwnSet
import Derived.Maps.RangeWalk
import Derived.RangeFuncNested
import Derived.RangeFuncBound
import Derived.RangeFuncCalls
import Derived.RangeFuncLeaves
import Derived.Shelf.Abstract
import Derived.Shelf.RegionOpen
import Derived.OwnWalkIn
import Derived.TacticsInMore
import Derived.LoopNIn
import Derived.LoopIn
import Derived.RangeFuncWrites
import Derived.RangeFuncFrom
namespace Go.Proofs.YtdpjjnbelgaagaaGreatDoor
set_option maxHeartbeats 32000000
open Go.ChangeShapes Go.WideShapes Go.ChangeAt Go.RowKit Go.Deep
set_option maxRecDepth 100000
def BG (j:Nat):ByteArray:=⟨(B9.getD j []).toArray⟩
structure Bc (w:World):Prop where
 lt:0<w.heap.size
 cell:∀j,j<7→w.cell? ⟨0,j,none⟩=some (.string (BG j))
theorem Bc.below {w w':World} (h:Bc w) (hb:Below w.heap.size w w'):Bc w':=
 ⟨Nat.lt_of_lt_of_le h.lt hb.size,fun j hj=>(World.cell?_of_block (w:=w) (hb.block 0 h.lt)).trans (h.cell j hj)⟩
theorem KT {s:ByteArray} {pos:Nat} (h:pos<s.size) (ha:s[pos].toNat<128):Utf8.decode s pos=(s[pos].toNat,1):=decode_ascii s pos h ha
theorem Kh {c:UInt8} (h:CB c=true):c.toNat≤126:=by
 have h2:DM c.toNat:=of_decide_eq_true h
 unfold DM at h2
 omega
abbrev Qm:ByteArray:={data:= #[97,98,99,100,101,102,103,104,105,106,107,108,109,110,111,112,113,114,115,116,117,118,119,120,121,122,65,66,67,68,69,70,71,72,73,74,75,76,77,78,79,80,81,82,83,84,85,86,87,88,89,90,48,49,50,51,52,53,54,55,56,57,46,95,43,45,47,58,64,126,94]}
theorem NN (c:UInt8) (w:World):Calls Tryz.prog 113 #[.string Qm,.int .u8 (c.toNat:Int)] w fun e w'=>e= .returned (.int .i64 (Lib.indexByte E1 c))∧w=w':=P9 E1 c w
theorem LZ {l:List UInt8} {j:Nat} (hj:j<7) (h:(l==(BG j).toList)=true):B9.contains l=true:=by
 have h2:l=B9.getD j []:=by
  have:=eq_of_beq h
  rw[this,ByteArray.toList_eq]
  rfl
 rw[h2,List.contains_iff_mem,List.getD_eq_getElem?_getD,List.getElem?_eq_getElem (show j<B9.length from hj)]
 exact List.getElem_mem _
theorem Kg {l:List UInt8} (h:∀j,j<7→(l==(BG j).toList)=false):B9.contains l=false:=by
 cases hc:B9.contains l
 ·rfl
 ·obtain⟨j,hj,e⟩:=List.getElem_of_mem (List.contains_iff_mem.1 hc)
  have h2:=h j hj
  rw[show(BG j).toList=l by
   rw[ByteArray.toList_eq]
   show B9.getD j []=l
   rw[List.getD_eq_getElem?_getD,List.getElem?_eq_getElem hj,←e]
   rfl]at h2
  simp at h2
theorem Cj {l:List UInt8} {k:Nat} (h:∀j,j<k→(l==(BG j).toList)=false) (h2:(l==(BG k).toList)=false):∀j,j<k+1→(l==(BG j).toList)=false:=fun j hj=>by
 by_cases e:j=k
 ·rw[e];exact h2
 ·exact h j (by omega)
theorem Gq (s:ByteArray) (w:World) (hs:s.size≤9223372036854775807) (hW:Bc w):Calls Tryz.prog 69 #[.string s] w fun e w'=>e= .returned (.bool (Ce s))∧Below w.heap.size w w':=by
 obtain⟨T,hT⟩:∃T,T=Ce s:=⟨_,rfl⟩
 rw[←hT]
 unfold Ce at hT
 by_cases h1:(s.size:Int)<1
 ·obtain rfl:T=false:=by rw[hT,decide_eq_false (show¬1≤s.size by omega)];rfl
  have hd:decide ((s.size:Int)<1)=true:=by simpa using h1
  clear hT hW
  go_enter Tryz.func69,Tryz.ntmps69
  go_wp2_with fail
  go_ret
  exact⟨rfl,Below.refl _ _⟩
 ·rw[decide_eq_true (show 1≤s.size by omega)]at hT
  have hd1:decide ((s.size:Int)<1)=false:=by simpa using h1
  by_cases h2:(64:Int)<(s.size:Int)
  ·obtain rfl:T=false:=by rw[hT,decide_eq_false (show¬s.size≤64 by omega)];rfl
   have hd2:decide ((64:Int)<(s.size:Int))=true:=by simpa using h2
   clear hT hW
   go_enter Tryz.func69,Tryz.ntmps69
   go_wp2_with fail
   go_ret
   exact⟨rfl,Below.refl _ _⟩
  ·rw[decide_eq_true (show s.size≤64 by omega)]at hT
   have hd2:decide ((64:Int)<(s.size:Int))=false:=by simpa using h2
   have HT:=Hd (show T=(!(B9.contains s.toList) && (s.data.toList.drop 0).all CB)from hT)
   have HW:=Hd hW
   clear hT hW
   go_enter Tryz.func69,Tryz.ntmps69
   go_wp2_with fail
   go_loopw [4] (fun _ wr=>∃pos:Nat,pos≤s.size∧Hid (wr.heap[w.heap.size]?=some (.stringIter s pos))∧Hid (Below w.heap.size w wr)∧Hid (T=(!(B9.contains s.toList) && (s.data.toList.drop pos).all CB))) (fun _ wr=>s.size-wr.iterPos w.heap.size)
   case atStart=>exact⟨0,by omega,Hd (World.iter_heap w s 0),Hd ((Below.refl _ w).alloc (Nat.le_refl _) _),HT⟩
   case round=>
    obtain⟨pos,hp,HIt,HB,HK⟩:=hrel
    by_cases hlt:pos<s.size
    ·have hTk:=HK.out
     rw[EW hlt]at hTk
     by_cases hasc:s[pos].toNat≤126
     ·have hnx:=fun ty=>Lib.run_next_ascii_at (P:=Tryz.prog) wr w.heap.size s pos ty HIt.out hlt (by omega)
      have hsz:w.heap.size<wr.heap.size:=(Array.getElem?_eq_some_iff.1 HIt.out).1
      have HI:=Hd (fun w=>NN s[pos] w)
      have HJy:=Hd (show decide (0≤Lib.indexByte E1 s[pos])=CB s[pos] by rw[NM,L5])
      obtain⟨J,hJ⟩:∃J,J=Lib.indexByte E1 s[pos]:=⟨_,rfl⟩
      rw[←hJ]at HI HJy
      have hwr:IntKind.u8.wrap (s[pos].toNat:Int)=(s[pos].toNat:Int):=by rw[IntKind.wrap_u8];omega
      have hgt:decide ((126:Int)<(s[pos].toNat:Int))=false:=by simp;omega
      cases hb:CB s[pos]with
      |true=>
       rw[hb]at HJy hTk
       have hJ0:decide (J<0)=false:=by have h:=of_decide_eq_true HJy.out;exact decide_eq_false (by omega)
       have HTk:=Hd (show T=(!(B9.contains s.toList) && (s.data.toList.drop (pos+1)).all CB)from hTk)
       have HIt2:=Hd (Lib.iterAt_heap wr w.heap.size s pos (pos+1) HIt.out)
       have HB2:=Hd (Lib.below_iterAt HB.out (k:=w.heap.size) (Nat.le_refl _) s (pos+1))
       clear HK hTk hb hJ
       go_wp2_with (first
        |(go_at_call 113;(with_reducible refine(HI.out _).mono ?_);rintro e w1 ⟨rfl,rfl⟩)
        |fail)
       go_roundw
       case rel=>exact⟨pos+1,by omega,HIt2,HB2,HTk⟩
       case measure=>
        simp only[World.iterPos,HIt2.out,HIt.out]
        omega
      |false=>
       rw[hb]at HJy hTk
       have hJ0:decide (J<0)=true:=by have h:=of_decide_eq_false HJy.out;exact decide_eq_true (by omega)
       obtain rfl:T=false:=by rw[hTk,Bool.false_and,Bool.and_false]
       clear hTk
       have HB2:=Hd (Lib.below_iterAt HB.out (k:=w.heap.size) (Nat.le_refl _) s (pos+1))
       clear HK HT hb hJ
       go_wp2_with (first
        |(go_at_call 113;(with_reducible refine(HI.out _).mono ?_);rintro e w1 ⟨rfl,rfl⟩)
        |fail)
       go_ret
       exact⟨rfl,HB2.out⟩
     ·have hnx:=fun ty=>Lib.run_next_any_at (P:=Tryz.prog) wr w.heap.size s pos ty HIt.out hlt
      have hdec:126<(Utf8.decode s pos).1:=by
       by_cases h128:s[pos].toNat<128
       ·rw[KT hlt h128]
        show 126<s[pos].toNat
        omega
       ·have:=(decode_high s pos hlt (by omega)).1
        omega
      have hb:CB s[pos]=false:=by
       cases h:CB s[pos]
       ·rfl
       ·exact absurd (Kh h) hasc
      obtain rfl:T=false:=by rw[hTk,hb,Bool.false_and,Bool.and_false]
      have HB2:=Hd (Lib.below_iterAt HB.out (k:=w.heap.size) (Nat.le_refl _) s (pos+(Utf8.decode s pos).2))
      obtain⟨D,hD⟩:∃D,D=Utf8.decode s pos:=⟨_,rfl⟩
      rw[←hD]at hnx hdec HB2
      have hgt:decide ((126:Int)<(D.1:Int))=true:=by simp;omega
      clear HK HT hTk hD hb
      go_wp2_with fail
      go_ret
      exact⟨rfl,HB2.out⟩
    ·obtain rfl:pos=s.size:=by omega
     have hTk:=HK.out
     rw[FZ,Bool.and_true]at hTk
     have HTk:=Hd hTk
     have hnx:=fun ty=>Lib.run_next_end_at (P:=Tryz.prog) wr w.heap.size s s.size ty HIt.out hlt
     have hw:=HW.out.below HB.out
     have c0:=hw.cell 0 (by omega)
     have c1:=hw.cell 1 (by omega)
     have c2:=hw.cell 2 (by omega)
     have c3:=hw.cell 3 (by omega)
     have c4:=hw.cell 4 (by omega)
     have c5:=hw.cell 5 (by omega)
     have c6:=hw.cell 6 (by omega)
     have HB3:=Hd HB.out
     clear HK hTk HT hw HIt HB
     have HV:=Hd (show∀j,j<7→((s.toList==(BG j).toList)=true→B9.contains s.toList=true)from fun j hj h=>LZ hj h)
     have HVn:=Hd (show(∀j,j<7→(s.toList==(BG j).toList)=false)→B9.contains s.toList=false from Kg)
     obtain⟨v0,hv0⟩:∃v,v=BG 0:=⟨_,rfl⟩
     obtain⟨v1,hv1⟩:∃v,v=BG 1:=⟨_,rfl⟩
     obtain⟨v2,hv2⟩:∃v,v=BG 2:=⟨_,rfl⟩
     obtain⟨v3,hv3⟩:∃v,v=BG 3:=⟨_,rfl⟩
     obtain⟨v4,hv4⟩:∃v,v=BG 4:=⟨_,rfl⟩
     obtain⟨v5,hv5⟩:∃v,v=BG 5:=⟨_,rfl⟩
     obtain⟨v6,hv6⟩:∃v,v=BG 6:=⟨_,rfl⟩
     rw[←hv0]at c0
     rw[←hv1]at c1
     rw[←hv2]at c2
     rw[←hv3]at c3
     rw[←hv4]at c4
     rw[←hv5]at c5
     rw[←hv6]at c6
     have HVv:=Hd (show(v0=BG 0∧v1=BG 1∧v2=BG 2)∧v3=BG 3∧v4=BG 4∧v5=BG 5∧v6=BG 6 from⟨⟨hv0,hv1,hv2⟩,hv3,hv4,hv5,hv6⟩)
     have i0:∀w,(Instr.index 155 (.agg #[.string v0,.string v1,.string v2,.string v3,.string v4,.string v5,.string v6]) (.int .i64 0)).run Tryz.prog w= .ok (.string v0) w:=fun _=>by kernel_rfl
     have i1:∀w,(Instr.index 155 (.agg #[.string v0,.string v1,.string v2,.string v3,.string v4,.string v5,.string v6]) (.int .i64 1)).run Tryz.prog w= .ok (.string v1) w:=fun _=>by kernel_rfl
     have i2:∀w,(Instr.index 155 (.agg #[.string v0,.string v1,.string v2,.string v3,.string v4,.string v5,.string v6]) (.int .i64 2)).run Tryz.prog w= .ok (.string v2) w:=fun _=>by kernel_rfl
     have i3:∀w,(Instr.index 155 (.agg #[.string v0,.string v1,.string v2,.string v3,.string v4,.string v5,.string v6]) (.int .i64 3)).run Tryz.prog w= .ok (.string v3) w:=fun _=>by kernel_rfl
     have i4:∀w,(Instr.index 155 (.agg #[.string v0,.string v1,.string v2,.string v3,.string v4,.string v5,.string v6]) (.int .i64 4)).run Tryz.prog w= .ok (.string v4) w:=fun _=>by kernel_rfl
     have i5:∀w,(Instr.index 155 (.agg #[.string v0,.string v1,.string v2,.string v3,.string v4,.string v5,.string v6]) (.int .i64 5)).run Tryz.prog w= .ok (.string v5) w:=fun _=>by kernel_rfl
     have i6:∀w,(Instr.index 155 (.agg #[.string v0,.string v1,.string v2,.string v3,.string v4,.string v5,.string v6]) (.int .i64 6)).run Tryz.prog w= .ok (.string v6) w:=fun _=>by kernel_rfl
     clear hv0 hv1 hv2 hv3 hv4 hv5 hv6
     go_wp2_with fail
     go_loop [29] (fun i=>∃k:Nat,k≤7∧i= .int .i64 k∧Hid (∀j,j<k→(s.toList==(BG j).toList)=false)) (fun i=>7-(intOf i).toNat)
     case atStart=>exact⟨0,by omega,rfl,Hd (fun j hj=>absurd hj (Nat.not_lt_zero _))⟩
     case round=>
      obtain⟨k,hk,rfl,HJ⟩:=hrel
      match k,hk with
      |0,_=>
       cases he:(s.toList==v0.toList)with
       |true=>
        obtain rfl:T=false:=by rw[HTk.out,HV.out 0 (by omega) (by rw[←HVv.out.1.1];exact he)];rfl
        clear HTk HV HVn
        go_wp2_with fail
        go_ret
        exact⟨rfl,HB3.out⟩
       |false=>
        have HJ2:=Hd (Cj HJ.out (by rw[←HVv.out.1.1];exact he))
        clear HJ
        go_wp2_with fail
        go_round
        case rel=>exact⟨1,by omega,rfl,HJ2⟩
        case measure=>simp[intOf]
      |1,_=>
       cases he:(s.toList==v1.toList)with
       |true=>
        obtain rfl:T=false:=by rw[HTk.out,HV.out 1 (by omega) (by rw[←HVv.out.1.2.1];exact he)];rfl
        clear HTk HV HVn
        go_wp2_with fail
        go_ret
        exact⟨rfl,HB3.out⟩
       |false=>
        have HJ2:=Hd (Cj HJ.out (by rw[←HVv.out.1.2.1];exact he))
        clear HJ
        go_wp2_with fail
        go_round
        case rel=>exact⟨2,by omega,rfl,HJ2⟩
        case measure=>simp[intOf]
      |2,_=>
       cases he:(s.toList==v2.toList)with
       |true=>
        obtain rfl:T=false:=by rw[HTk.out,HV.out 2 (by omega) (by rw[←HVv.out.1.2.2];exact he)];rfl
        clear HTk HV HVn
        go_wp2_with fail
        go_ret
        exact⟨rfl,HB3.out⟩
       |false=>
        have HJ2:=Hd (Cj HJ.out (by rw[←HVv.out.1.2.2];exact he))
        clear HJ
        go_wp2_with fail
        go_round
        case rel=>exact⟨3,by omega,rfl,HJ2⟩
        case measure=>simp[intOf]
      |3,_=>
       cases he:(s.toList==v3.toList)with
       |true=>
        obtain rfl:T=false:=by rw[HTk.out,HV.out 3 (by omega) (by rw[←HVv.out.2.1];exact he)];rfl
        clear HTk HV HVn
        go_wp2_with fail
        go_ret
        exact⟨rfl,HB3.out⟩
       |false=>
        have HJ2:=Hd (Cj HJ.out (by rw[←HVv.out.2.1];exact he))
        clear HJ
        go_wp2_with fail
        go_round
        case rel=>exact⟨4,by omega,rfl,HJ2⟩
        case measure=>simp[intOf]
      |4,_=>
       cases he:(s.toList==v4.toList)with
       |true=>
        obtain rfl:T=false:=by rw[HTk.out,HV.out 4 (by omega) (by rw[←HVv.out.2.2.1];exact he)];rfl
        clear HTk HV HVn
        go_wp2_with fail
        go_ret
        exact⟨rfl,HB3.out⟩
       |false=>
        have HJ2:=Hd (Cj HJ.out (by rw[←HVv.out.2.2.1];exact he))
        clear HJ
        go_wp2_with fail
        go_round
        case rel=>exact⟨5,by omega,rfl,HJ2⟩
        case measure=>simp[intOf]
      |5,_=>
       cases he:(s.toList==v5.toList)with
       |true=>
        obtain rfl:T=false:=by rw[HTk.out,HV.out 5 (by omega) (by rw[←HVv.out.2.2.2.1];exact he)];rfl
        clear HTk HV HVn
        go_wp2_with fail
        go_ret
        exact⟨rfl,HB3.out⟩
       |false=>
        have HJ2:=Hd (Cj HJ.out (by rw[←HVv.out.2.2.2.1];exact he))
        clear HJ
        go_wp2_with fail
        go_round
        case rel=>exact⟨6,by omega,rfl,HJ2⟩
        case measure=>simp[intOf]
      |6,_=>
       cases he:(s.toList==v6.toList)with
       |true=>
        obtain rfl:T=false:=by rw[HTk.out,HV.out 6 (by omega) (by rw[←HVv.out.2.2.2.2];exact he)];rfl
        clear HTk HV HVn
        go_wp2_with fail
        go_ret
        exact⟨rfl,HB3.out⟩
       |false=>
        have HJ2:=Hd (Cj HJ.out (by rw[←HVv.out.2.2.2.2];exact he))
        clear HJ
        go_wp2_with fail
        go_round
        case rel=>exact⟨7,by omega,rfl,HJ2⟩
        case measure=>simp[intOf]
      |7,_=>
       obtain rfl:T=true:=by rw[HTk.out,HVn.out HJ.out];rfl
       clear HTk HV HVn HJ
       go_wp2_with fail
       go_ret
       exact⟨rfl,HB3.out⟩
open Go.ChangeShapes Go.WideShapes Go.ChangeAt Go.RowKit Go.Deep Go.Maps
def EH:List (List UInt8×Int):= [([],0),([60],1),([60,61],3),([61],2),([62],4),([62,61],6)]
def G0 {H:Type}:DataW H:= .map (EH.map fun p=>(.string p.1,.lit (.int .u8 p.2)))
def Es (op:Int):List UInt8:=((EH.find? fun p=>p.2==op).map (·.1)).getD []
def DG (op:Int):Bool:=op==0||op==1||op==2||op==3||op==4||op==6
def Ops (w:World):Prop:=1<w.heap.size∧∃(H:Type) (bm m:Nat),w.cell? ⟨1,0,none⟩=some (.map (some bm))∧w.ownsMap (H:=H) Tryz.prog 9 (plainElem Tryz.prog 5) bm m G0
theorem Lw {H:Type} {w:World} {bm m:Nat} {D:DataW H} {R:Value→Option (DataW H×List MemPlace)} (h:w.ownsMap Tryz.prog 9 R bm m D):bm<w.heap.size:=by
 obtain⟨es,clock,hb,_⟩:=h
 exact(Array.getElem?_eq_some_iff.1 hb).1
theorem Ops.below {w w':World} (h:Ops w) (hb:Below w.heap.size w w'):Ops w':=by
 obtain⟨h1,H,bm,m,h2,h3⟩:=h
 have hl:=Lw h3
 obtain⟨es,clock,hm,r⟩:=h3
 exact⟨Nat.lt_of_lt_of_le h1 hb.size,H,bm,m,(World.cell?_of_block (w:=w) (hb.block 1 h1)).trans h2,es,clock,(hb.block bm hl).trans hm,r⟩
theorem OW (a b:List UInt8):(Lit.string a).sameKey (.string b)=decide (a=b):=by
 by_cases h:a=b
 ·subst h
  rw[decide_eq_true rfl]
  exact WideAt.sameKey_self (by simp[WideAt.IsKeyLit])
 ·rw[decide_eq_false h]
  cases hs:(Lit.string a).sameKey (.string b)
  ·rfl
  ·have:=WideAt.sameKey_eq hs
   injection this with this
   exact absurd this h
theorem O0 {H:Type} {l:List UInt8} (h:Maps.has (G0 (H:=H)) (.string l)=true):∃v,(l,v)∈EH∧∀zd,(G0 (H:=H)).atKey (.string l) zd= .lit (.int .u8 v):=by
 unfold Maps.has G0 at h
 simp only[List.any_map,List.any_eq_true,Function.comp,OW,decide_eq_true_eq]at h
 obtain⟨p,hp,rfl⟩:=h
 refine⟨p.2,hp,fun zd=> ?_⟩
 unfold EH at hp
 simp only[List.mem_cons,List.not_mem_nil,or_false]at hp
 rcases hp with rfl|rfl|rfl|rfl|rfl|rfl<;>(unfold G0 EH DataW.atKey;simp[OW])
theorem OQ {l:List UInt8} {v:Int} (h:(l,v)∈EH):Es v=l:=by
 unfold EH at h
 simp only[List.mem_cons,List.not_mem_nil,or_false,Prod.mk.injEq]at h
 rcases h with ⟨rfl,rfl⟩|⟨rfl,rfl⟩|⟨rfl,rfl⟩|⟨rfl,rfl⟩|⟨rfl,rfl⟩|⟨rfl,rfl⟩<;>rfl
theorem L1 {op:Int} (h:∀p∈EH,p.2≠op):Es op= []:=by
 unfold Es
 rw[List.find?_eq_none.2 (fun p hp=>by simpa using h p hp)]
 rfl
theorem Ny:∀p∈EH,∀q∈EH,p.1=q.1→p.2=q.2:=by decide
theorem Qr {H:Type}:∀p∈EH,Maps.has (G0 (H:=H)) (.string p.1)=true:=fun p hp=>by
 unfold Maps.has G0
 simp only[List.any_map,List.any_eq_true,Function.comp,OW,decide_eq_true_eq]
 exact⟨p,hp,rfl⟩
theorem M9 (op:Int) (h:op≠0):DG op= !(Es op).isEmpty:=by
 unfold Es EH DG
 simp only[List.find?_cons,List.find?_nil]
 by_cases h1:op=1
 ·subst h1;rfl
 ·by_cases h3:op=3
  ·subst h3;rfl
  ·by_cases h2:op=2
   ·subst h2;rfl
   ·by_cases h4:op=4
    ·subst h4;rfl
    ·by_cases h6:op=6
     ·subst h6;rfl
     ·have e0:((0:Int)==op)=false:=by simpa using fun e=>h e.symm
      have e1:((1:Int)==op)=false:=by simpa using fun e=>h1 e.symm
      have e2:((2:Int)==op)=false:=by simpa using fun e=>h2 e.symm
      have e3:((3:Int)==op)=false:=by simpa using fun e=>h3 e.symm
      have e4:((4:Int)==op)=false:=by simpa using fun e=>h4 e.symm
      have e6:((6:Int)==op)=false:=by simpa using fun e=>h6 e.symm
      simp[e0,e1,e2,e3,e4,e6,h,h1,h2,h3,h4,h6]
theorem Na (op:Int) (w:World) (hO:Ops w):Calls Tryz.prog 160 #[.int .u8 op] w fun e w'=>e= .returned (.string ⟨(Es op).toArray⟩)∧Below w.heap.size w w':=by
 obtain⟨h1,H,bm,m,hc,hown⟩:=hO
 obtain⟨T,hT⟩:∃T:ByteArray,T=⟨(Es op).toArray⟩:=⟨_,rfl⟩
 rw[←hT]
 have HT:=Hd hT
 have hbml:=Lw hown
 clear hT
 go_enter Tryz.func160,Tryz.ntmps160
 go_wp2_with (first
  |(at_range;refine wpList_range_own _ rfl _ 206 rfl 9 5 (string_keyed Tryz.underlying9) Tryz.underlying206 _ bm m _ rfl hown ?_;intro wr0 hrg0 hg0 hs0)
  |fail)
 go_frame
 go_loopw [] (fun wr=>∃(left:Go.Lit→Bool) (cnt:Nat),wr.ranges (H:=H) Tryz.prog 9 (plainElem Tryz.prog 5) bm w.heap.size m G0 left cnt∧Hid (∀kl,left kl=true→Maps.has (G0 (H:=H)) kl=true)∧Hid (∀p∈EH,left (.string p.1)=false→p.2≠op)∧Hid (Below w.heap.size w wr))
  (fun wr=>wr.rangeLeft bm w.heap.size)
 case atStart=>exact⟨_,_,hrg0,Hd (fun _ h=>h),Hd (fun p hp h=>by rw[Qr p hp]at h;cases h),Hd ⟨hg0.os,hg0.tape,hg0.output,hg0.size,fun k hk=>hg0.block k hk (by simp)⟩⟩
 case round=>
  obtain⟨left,cnt,hrg,HLs,HNo,HB⟩:=hrel
  go_wp2_with (first
   |(at_next;go_loud (refine wpList_next_ranges _ rfl _ rfl 9 (string_keyed Tryz.underlying9) (plainElem Tryz.prog 5) Value.string (Value.int .u8) (fun key kl h=>by obtain⟨s,h1,_⟩:=WideMaps.string_of_keyOf Tryz.underlying9 h;exact⟨s,h1⟩) (fun v y h=>by obtain⟨a,h1,_⟩:=plainElem_int_inv Tryz.underlying5 h;exact⟨a,h1⟩) bm w.heap.size m _ _ _ rfl hrg ?_ ?_))
   |fail)
  ·intro hc0 hl0
   have ht:T=⟨#[]⟩:=by rw[HT.out,L1 fun p hp=>HNo.out p hp (hl0 _)]
   subst ht
   clear HT hl0 hrg HNo HLs
   go_wp2_with fail
   go_ret
   exact⟨rfl,HB.out⟩
  ·intro s c kl y1 y2 wr2 cnt' hkey hlx hy hat hrg2 hlt hgr hsz hen
   obtain⟨s',es,rfl,_⟩:=WideMaps.string_of_keyOf Tryz.underlying9 hkey
   injection es with es
   subst es
   obtain⟨v,hv,hat2⟩:=O0 (HLs.out _ hlx)
   obtain⟨c',ec,hc2,_⟩:=plainElem_int_inv Tryz.underlying5 hy
   injection ec with _ ec
   subst ec
   have hcv:c=v:=by
    have h5:=(hat (.lit (.int .u8 0))).symm.trans (hat2 (.lit (.int .u8 0)))
    simp only[Prod.mk.injEq]at hc2
    rw[hc2.1]at h5
    injection h5 with h5
    injection h5 with _ h5
   subst hcv
   have hm0:wr.rangeLeft bm w.heap.size=cnt:=hrg.left_eq
   have hm1:wr2.rangeLeft bm w.heap.size=cnt':=hrg2.left_eq
   have HB2:=Hd (show Below w.heap.size w wr2 from HB.out.trans ⟨hgr.os,hgr.tape,hgr.output,hgr.size,fun k hk=>hgr.block k (by have:=HB.out.size;omega) (by simp;omega)⟩)
   have HLs2:Hid (∀kl,(left kl && !kl.sameKey (.string s.data.toList))=true→Maps.has (G0 (H:=H)) kl=true):=Hd fun kl h=>HLs.out kl (by simp only[Bool.and_eq_true]at h;exact h.1)
   have HV:=Hd hv
   have HRg:=Hd hrg2
   have HM:=Hd (show wr2.rangeLeft bm w.heap.size<wr.rangeLeft bm w.heap.size by omega)
   clear hkey hlx hy hat hat2 hc2 hrg hrg2 hlt hgr hsz hm0 hm1 HLs hv
   by_cases he:c=op
   ·subst he
    have ht:T=s:=by
     rw[HT.out,OQ HV.out]
    subst ht
    have hcc:(c==c)=true:=by simp
    clear HT
    go_wp2_with fail
    go_ret
    exact⟨rfl,HB2.out⟩
   ·have hcc:(c==op)=false:=by simpa using he
    have HNo2:Hid (∀p∈EH,(left (.string p.1) && !(Lit.string p.1).sameKey (.string s.data.toList))=false→p.2≠op):=Hd fun p hp h=>by
     rw[OW]at h
     cases hl:left (.string p.1)with
     |false=>exact HNo.out p hp hl
     |true=>
      rw[hl]at h
      have h2:p.1=s.data.toList:=by simpa using h
      rw[Ny p hp _ HV.out h2]
      exact he
    clear HNo he
    go_wp2_with fail
    go_roundw
    case rel=>exact⟨_,_,HRg.out,HLs2,HNo2,HB2⟩
    case measure=>exact HM.out
theorem I6 (op:Int) (w:World) (hO:Ops w):Calls Tryz.prog 120 #[.int .u8 op] w fun e w'=>e= .returned (.bool (DG op))∧Below w.heap.size w w':=by
 obtain⟨T,hT⟩:∃T,T=DG op:=⟨_,rfl⟩
 rw[←hT]
 have HB0:=Below.refl w.heap.size w
 by_cases h0:op=0
 ·subst h0
  obtain rfl:T=true:=hT
  clear hO
  go_enter Tryz.func120,Tryz.ntmps120
  go_wp2_with fail
  go_ret
  exact⟨rfl,HB0⟩
 ·have hd:decide (op=0)=false:=by simpa using h0
  have hd2:(op==0)=false:=by simpa using h0
  have HC:=Hd (Na op w hO)
  rw[M9 op h0]at hT
  obtain⟨S,hS⟩:∃S:ByteArray,S=⟨(Es op).toArray⟩:=⟨_,rfl⟩
  have hS2:S.toList=Es op:=by rw[hS,ByteArray.toList_eq]
  rw[←hS]at HC
  rw[←hS2]at hT
  cases hl:S.toList with
  |nil=>
   rw[hl]at hT
   obtain rfl:T=false:=hT
   have he:S.toList.isEmpty=true:=by rw[hl];rfl
   clear hO hS hS2 HB0
   go_enter Tryz.func120,Tryz.ntmps120
   go_wp2_with (first
    |(go_at_call 160;(with_reducible refine(HC.out).mono ?_);rintro e w1 ⟨rfl,HB⟩)
    |fail)
   go_ret
   exact⟨rfl,HB⟩
  |cons x xs=>
   rw[hl]at hT
   obtain rfl:T=true:=hT
   have he:S.toList.isEmpty=false:=by rw[hl];rfl
   have he2:¬S.toList= []:=by rw[hl];simp
   clear hO hS hS2 HB0 hl
   go_enter Tryz.func120,Tryz.ntmps120
   go_wp2_with (first
    |(go_at_call 160;(with_reducible refine(HC.out).mono ?_);rintro e w1 ⟨rfl,HB⟩)
    |fail)
   go_ret
   exact⟨rfl,HB⟩
theorem It (op:Int) (w:World):Calls Tryz.prog 174 #[.int .u8 op] w fun e w'=>e= .returned (.bool (DG op))∧Below w.heap.size w w':=by
 obtain⟨T,hT⟩:∃T,T=DG op:=⟨_,rfl⟩
 rw[←hT]
 have HB0:=Below.refl w.heap.size w
 by_cases hop:op=0∨op=1∨op=2∨op=3∨op=4∨op=6
 ·obtain rfl:T=true:=by rcases hop with rfl|rfl|rfl|rfl|rfl|rfl<;>exact hT
  clear hT
  rcases hop with rfl|rfl|rfl|rfl|rfl|rfl
  all_goals
   go_enter Tryz.func174,Tryz.ntmps174
   go_wp2_with fail
   go_ret
   exact⟨rfl,HB0⟩
 ·simp only[not_or]at hop
  obtain⟨x0,x1,x2,x3,x4,x6⟩:=hop
  have HT:=Hd hT
  obtain⟨y0,y1,y2,y3,y4,y6⟩:(op==0)=false∧(op==1)=false∧(op==2)=false∧(op==3)=false∧(op==4)=false∧(op==6)=false:=by simp[x0,x1,x2,x3,x4,x6]
  clear hT
  go_enter Tryz.func174,Tryz.ntmps174
  go_wp2_with fail
  go_ret
  exact⟨by rw[HT.out];simp[DG,y0,y1,y2,y3,y4,y6],HB0⟩
def BU (s:ByteArray):Bool:=Ce s && Lib.hasPrefix s.data.toList [47]
theorem Gz (s:ByteArray) (w:World) (hs:s.size≤9223372036854775807) (hW:Bc w):Calls Tryz.prog 70 #[.string s] w fun e w'=>e= .returned (.bool (BU s))∧Below w.heap.size w w':=by
 obtain⟨T,hT⟩:∃T,T=BU s:=⟨_,rfl⟩
 rw[←hT]
 have HN:=Hd (Gq s w hs hW)
 unfold BU at hT
 cases hn:Ce s with
 |false=>
  rw[hn]at hT HN
  obtain rfl:T=false:=hT
  clear hn hW hs
  go_enter Tryz.func70,Tryz.ntmps70
  go_wp2_with (first
   |(go_at_call 69;(with_reducible refine(HN.out).mono ?_);rintro e w1 ⟨rfl,HB⟩)
   |fail)
  go_ret
  exact⟨rfl,HB⟩
 |true=>
  rw[hn]at hT HN
  have HP:=Hd (fun w=>strings_HasPrefix s ⟨#[47]⟩ w)
  obtain rfl:T=Lib.hasPrefix s.data.toList [47]:=hT
  clear hn hW hs
  go_enter Tryz.func70,Tryz.ntmps70
  go_wp2_with (first
   |(go_at_call 69;(with_reducible refine(HN.out).mono ?_);rintro e w1 ⟨rfl,HB⟩)
   |(go_at_call 114;(with_reducible refine(HP.out _).mono ?_);rintro e w2 ⟨rfl,rfl⟩)
   |fail)
  go_ret
  exact⟨rfl,HB⟩
theorem Jk {s:ByteArray} (h:0<s.size):Lib.hasPrefix s.data.toList [47]=decide (s[0]=47):=by
 rcases s with ⟨⟨l⟩⟩
 cases l with
 |nil=>simp[ByteArray.size]at h
 |cons c r=>
  show Lib.hasPrefix (c::r) [47]=decide (c=47)
  by_cases hc:c=47
  ·subst hc;rfl
  ·rw[decide_eq_false hc]
   have hc2:((47:UInt8)==c)=false:=by simpa using fun e=>hc e.symm
   simp[Lib.hasPrefix,List.isPrefixOf,hc2]
theorem E4 (s:ByteArray) (w:World) (hs:s.size≤9223372036854775807):Calls Tryz.prog 91 #[.string s] w fun e w'=>e= .returned (.bool (BU s))∧w=w':=by
 obtain⟨T,hT⟩:∃T,T=BU s:=⟨_,rfl⟩
 rw[←hT]
 have HN:=Hd (fun w=>E3 s w hs)
 unfold BU at hT
 cases hn:Ce s with
 |false=>
  rw[hn]at hT HN
  obtain rfl:T=false:=hT
  clear hn hs
  go_enter Tryz.func91,Tryz.ntmps91
  go_wp2_with (first
   |(go_at_call 90;(with_reducible refine(HN.out _).mono ?_);rintro e w1 ⟨rfl,rfl⟩)
   |fail)
  go_ret
  exact⟨rfl,rfl⟩
 |true=>
  have h0:0<s.size:=by
   unfold Ce at hn
   simp only[Bool.and_eq_true,decide_eq_true_eq]at hn
   omega
  rw[hn,Jk h0]at hT
  rw[hn]at HN
  have h0':(0:Int)<(s.size:Int):=by omega
  by_cases hc:s[0]=47
  ·rw[decide_eq_true hc]at hT
   obtain rfl:T=true:=hT
   have hn47:s[0].toNat=47:=by rw[hc];rfl
   clear hn hs hc
   go_enter Tryz.func91,Tryz.ntmps91
   go_wp2_with (first
    |(go_at_call 90;(with_reducible refine(HN.out _).mono ?_);rintro e w1 ⟨rfl,rfl⟩)
    |fail)
   go_ret
   exact⟨by simp,rfl⟩
  ·rw[decide_eq_false hc]at hT
   obtain rfl:T=false:=hT
   have hn47:s[0].toNat≠47:=fun e=>hc (UInt8.toNat_inj.1 (by rw[e];rfl))
   clear hn hs hc
   go_enter Tryz.func91,Tryz.ntmps91
   go_wp2_with (first
    |(go_at_call 90;(with_reducible refine(HN.out _).mono ?_);rintro e w1 ⟨rfl,rfl⟩)
    |fail)
   go_ret
   exact⟨by first|rfl|(simp;omega),rfl⟩
structure Ax where
 name:ByteArray
 op:Int
 ep:Int
 ver:ByteArray
 rel:ByteArray
def Ax.zero (d:Ax):Bool:=decide (d.ep=0) && (d.ver.toList.isEmpty && d.rel.toList.isEmpty)
def Ax.fit (d:Ax):Prop:=d.name.size≤9223372036854775807∧d.ver.size≤9223372036854775807∧d.rel.size≤9223372036854775807
def Ca (d:Ax):Bool:=Ce d.name && (DG d.op && (if d.op=0 then d.zero else !BU d.name && En d.ep d.ver d.rel true))
abbrev Ax.val (d:Ax):Value:= .agg #[.string d.name,.int .u8 d.op,.int .i64 d.ep,.string d.ver,.string d.rel]
structure Kf (n:Nat) (d:Ax) (w:World):Prop where
 c0:w.cell? ⟨n,0,none⟩=some (.string d.name)
 c1:w.cell? ⟨n,1,none⟩=some (.int .u8 d.op)
 c2:w.cell? ⟨n,2,none⟩=some (.int .i64 d.ep)
 c3:w.cell? ⟨n,3,none⟩=some (.string d.ver)
 c4:w.cell? ⟨n,4,none⟩=some (.string d.rel)
 lt:n<w.heap.size
theorem Kf.below {n:Nat} {d:Ax} {w w':World} (h:Kf n d w) (hb:Below w.heap.size w w'):Kf n d w':=by
 have k:∀c,w'.cell? ⟨n,c,none⟩=w.cell? ⟨n,c,none⟩:=fun c=>World.cell?_of_block (w:=w) (hb.block n h.lt)
 exact⟨(k _).trans h.c0,(k _).trans h.c1,(k _).trans h.c2,(k _).trans h.c3,(k _).trans h.c4,Nat.lt_of_lt_of_le h.lt hb.size⟩
theorem F1 {d:Ax} (h1:d.ep=0) (h2:d.ver.toList= []) (h3:d.rel.toList= []):d.zero=true:=by unfold Ax.zero;rw[h1,h2,h3];rfl
theorem Ip {d:Ax} (h1:¬d.ep=0):d.zero=false:=by unfold Ax.zero;rw[decide_eq_false h1];rfl
theorem F2 {d:Ax} (h1:¬d.ver.toList= []):d.zero=false:=by
 unfold Ax.zero
 have:d.ver.toList.isEmpty=false:=by cases h:d.ver.toList with|nil=>exact absurd h h1|cons=>rfl
 rw[this];simp
theorem F3 {d:Ax} (h1:¬d.rel.toList= []):d.zero=false:=by
 unfold Ax.zero
 have:d.rel.toList.isEmpty=false:=by cases h:d.rel.toList with|nil=>exact absurd h h1|cons=>rfl
 rw[this];simp
theorem GI (d:Ax) (w:World) (hf:d.fit) (hW:Bc w) (hO:Ops w):Calls Tryz.prog 74 #[d.val] w fun e w'=>e= .returned (.bool (Ca d))∧Below w.heap.size w w':=by
 obtain⟨T,hT⟩:∃T,T=Ca d:=⟨_,rfl⟩
 rw[←hT]
 rcases d with ⟨s,op,ep,ver,rel⟩
 obtain⟨f1,f2,f3⟩:=hf
 have HB0:=Hd (show Below w.heap.size w (w.alloc (.cells #[.string s,.int .u8 op,.int .i64 ep,.string ver,.string rel] 32))from(Below.refl _ _).alloc (Nat.le_refl _) _)
 have HA0:=Hd (show Kf w.heap.size ⟨s,op,ep,ver,rel⟩ (w.alloc (.cells #[.string s,.int .u8 op,.int .i64 ep,.string ver,.string rel] 32))from⟨by simp,by simp,by simp,by simp,by simp,by simp⟩)
 have HW0:=Hd (hW.below HB0.out)
 have HO0:=Hd (hO.below HB0.out)
 have HN:=Hd (fun w (h:Bc w)=>Gq s w f1 h)
 have HM:=Hd (fun w (h:Ops w)=>I6 op w h)
 have HF:=Hd (fun w (h:Bc w)=>Gz s w f1 h)
 have HE:=Hd (fun w=>LB ep ver rel true w f2 f3)
 unfold Ca at hT
 clear hW hO f1 f2 f3
 cases hn:Ce s with
 |false=>
  simp only[hn,Bool.false_and]at hT HN
  subst hT
  clear hn
  go_enter Tryz.func74,Tryz.ntmps74
  go_wp2_with (first
   |(go_at_call 69;(with_reducible refine(HN.out _ HW0.out).mono ?_);rintro e w1 ⟨rfl,HBc1⟩;have HB1:=Hd (HB0.out.trans (HBc1.mono HB0.out.size));clear HBc1)
   |fail)
  go_ret
  exact⟨rfl,HB1.out⟩
 |true=>
  simp only[hn,Bool.true_and]at hT HN
  cases hm:DG op with
  |false=>
   simp only[hm,Bool.false_and]at hT HM
   subst hT
   clear hn hm
   go_enter Tryz.func74,Tryz.ntmps74
   go_wp2_with (first
    |(go_at_call 69;(with_reducible refine(HN.out _ HW0.out).mono ?_);rintro e w1 ⟨rfl,HBc1⟩;have HB1:=Hd (HB0.out.trans (HBc1.mono HB0.out.size));have HA1:=Hd (HA0.out.below HBc1);have HO1:=Hd (HO0.out.below HBc1);have HW1:=Hd (HW0.out.below HBc1);obtain⟨c10,c11,c12,c13,c14,_⟩:=HA1.out;clear HBc1)
    |(go_at_call 120;(with_reducible refine(HM.out _ HO1.out).mono ?_);rintro e w2 ⟨rfl,HBc2⟩;have HB2:=Hd (HB1.out.trans (HBc2.mono HB1.out.size));clear HBc2)
    |fail)
   go_ret
   exact⟨rfl,HB2.out⟩
  |true=>
   simp only[hm,Bool.true_and]at hT HM
   by_cases ho:op=0
   ·rw[if_pos ho]at hT
    subst ho
    have HT:=Hd hT
    clear hn hm hT
    go_enter Tryz.func74,Tryz.ntmps74
    go_wp2_with (first
     |(go_at_call 69;(with_reducible refine(HN.out _ HW0.out).mono ?_);rintro e w1 ⟨rfl,HBc1⟩;have HB1:=Hd (HB0.out.trans (HBc1.mono HB0.out.size));have HA1:=Hd (HA0.out.below HBc1);have HO1:=Hd (HO0.out.below HBc1);have HW1:=Hd (HW0.out.below HBc1);obtain⟨c10,c11,c12,c13,c14,_⟩:=HA1.out;clear HBc1)
     |(go_at_call 120;(with_reducible refine(HM.out _ HO1.out).mono ?_);rintro e w2 ⟨rfl,HBc2⟩;have HB2:=Hd (HB1.out.trans (HBc2.mono HB1.out.size));have HA2:=Hd (HA1.out.below HBc2);have HO2:=Hd (HO1.out.below HBc2);have HW2:=Hd (HW1.out.below HBc2);obtain⟨c20,c21,c22,c23,c24,_⟩:=HA2.out;clear HBc2)
     |fail)
    all_goals
     go_ret
     first|exact⟨Af (HT.out.trans (F1 (by assumption) (by assumption) (by assumption))).symm,HB2.out⟩|exact⟨Af (HT.out.trans (Ip (by assumption))).symm,HB2.out⟩|exact⟨Af (HT.out.trans (F2 (by assumption))).symm,HB2.out⟩|exact⟨Af (HT.out.trans (F3 (by assumption))).symm,HB2.out⟩
   ·rw[if_neg ho]at hT
    have hd:(op==0)=false:=by simpa using ho
    cases hfl:BU s with
    |true=>
     simp only[hfl,Bool.not_true,Bool.false_and]at hT HF
     subst hT
     clear hn hm ho hfl
     go_enter Tryz.func74,Tryz.ntmps74
     go_wp2_with (first
      |(go_at_call 69;(with_reducible refine(HN.out _ HW0.out).mono ?_);rintro e w1 ⟨rfl,HBc1⟩;have HB1:=Hd (HB0.out.trans (HBc1.mono HB0.out.size));have HA1:=Hd (HA0.out.below HBc1);have HO1:=Hd (HO0.out.below HBc1);have HW1:=Hd (HW0.out.below HBc1);obtain⟨c10,c11,c12,c13,c14,_⟩:=HA1.out;clear HBc1)
      |(go_at_call 120;(with_reducible refine(HM.out _ HO1.out).mono ?_);rintro e w2 ⟨rfl,HBc2⟩;have HB2:=Hd (HB1.out.trans (HBc2.mono HB1.out.size));have HA2:=Hd (HA1.out.below HBc2);have HO2:=Hd (HO1.out.below HBc2);have HW2:=Hd (HW1.out.below HBc2);obtain⟨c20,c21,c22,c23,c24,_⟩:=HA2.out;clear HBc2)
      |(go_at_call 70;(with_reducible refine(HF.out _ HW2.out).mono ?_);rintro e w3 ⟨rfl,HBc3⟩;have HB3:=Hd (HB2.out.trans (HBc3.mono HB2.out.size));clear HBc3)
      |fail)
     go_ret
     exact⟨rfl,HB3.out⟩
    |false=>
     simp only[hfl,Bool.not_false,Bool.true_and]at hT HF
     subst hT
     clear hn hm ho hfl
     go_enter Tryz.func74,Tryz.ntmps74
     go_wp2_with (first
      |(go_at_call 69;(with_reducible refine(HN.out _ HW0.out).mono ?_);rintro e w1 ⟨rfl,HBc1⟩;have HB1:=Hd (HB0.out.trans (HBc1.mono HB0.out.size));have HA1:=Hd (HA0.out.below HBc1);have HO1:=Hd (HO0.out.below HBc1);have HW1:=Hd (HW0.out.below HBc1);obtain⟨c10,c11,c12,c13,c14,_⟩:=HA1.out;clear HBc1)
      |(go_at_call 120;(with_reducible refine(HM.out _ HO1.out).mono ?_);rintro e w2 ⟨rfl,HBc2⟩;have HB2:=Hd (HB1.out.trans (HBc2.mono HB1.out.size));have HA2:=Hd (HA1.out.below HBc2);have HO2:=Hd (HO1.out.below HBc2);have HW2:=Hd (HW1.out.below HBc2);obtain⟨c20,c21,c22,c23,c24,_⟩:=HA2.out;clear HBc2)
      |(go_at_call 70;(with_reducible refine(HF.out _ HW2.out).mono ?_);rintro e w3 ⟨rfl,HBc3⟩;have HB3:=Hd (HB2.out.trans (HBc3.mono HB2.out.size));have HA3:=Hd (HA2.out.below HBc3);have HO3:=Hd (HO2.out.below HBc3);have HW3:=Hd (HW2.out.below HBc3);obtain⟨c30,c31,c32,c33,c34,_⟩:=HA3.out;clear HBc3)
      |(go_at_call 71;(with_reducible refine(HE.out _).mono ?_);rintro e w4 ⟨rfl,HBc4⟩;have HB4:=Hd (HB3.out.trans (HBc4.mono HB3.out.size));clear HBc4)
      |fail)
     go_ret
     exact⟨rfl,HB4.out⟩
theorem Fs (d:Ax) (w:World) (hf:d.fit):Calls Tryz.prog 146 #[d.val] w fun e w'=>e= .returned (.bool (Ca d))∧Below w.heap.size w w':=by
 obtain⟨T,hT⟩:∃T,T=Ca d:=⟨_,rfl⟩
 rw[←hT]
 rcases d with ⟨s,op,ep,ver,rel⟩
 obtain⟨f1,f2,f3⟩:=hf
 have HB0:=Hd (show Below w.heap.size w (w.alloc (.cells #[.string s,.int .u8 op,.int .i64 ep,.string ver,.string rel] 32))from(Below.refl _ _).alloc (Nat.le_refl _) _)
 have HA0:=Hd (show Kf w.heap.size ⟨s,op,ep,ver,rel⟩ (w.alloc (.cells #[.string s,.int .u8 op,.int .i64 ep,.string ver,.string rel] 32))from⟨by simp,by simp,by simp,by simp,by simp,by simp⟩)
 have HN:=Hd (fun w=>E3 s w f1)
 have HM:=Hd (fun w=>It op w)
 have HF:=Hd (fun w=>E4 s w f1)
 have HE:=Hd (fun w=>Jb ep ver rel true w f2 f3)
 unfold Ca at hT
 clear f1 f2 f3
 cases hn:Ce s with
 |false=>
  simp only[hn,Bool.false_and]at hT HN
  subst hT
  clear hn
  go_enter Tryz.func146,Tryz.ntmps146
  go_wp2_with (first
   |(go_at_call 90;(with_reducible refine(HN.out _).mono ?_);rintro e w1 ⟨rfl,hw1⟩;subst hw1)
   |fail)
  go_ret
  exact⟨rfl,HB0.out⟩
 |true=>
  simp only[hn,Bool.true_and]at hT HN
  cases hm:DG op with
  |false=>
   simp only[hm,Bool.false_and]at hT HM
   subst hT
   clear hn hm
   go_enter Tryz.func146,Tryz.ntmps146
   go_wp2_with (first
    |(go_at_call 90;(with_reducible refine(HN.out _).mono ?_);rintro e w1 ⟨rfl,hw1⟩;subst hw1)
    |(go_at_call 174;(with_reducible refine(HM.out _).mono ?_);rintro e w1 ⟨rfl,HBc1⟩;have HB1:=Hd (HB0.out.trans (HBc1.mono HB0.out.size));clear HBc1)
    |fail)
   go_ret
   exact⟨rfl,HB1.out⟩
  |true=>
   simp only[hm,Bool.true_and]at hT HM
   by_cases ho:op=0
   ·rw[if_pos ho]at hT
    subst ho
    have HT:=Hd hT
    clear hn hm hT
    go_enter Tryz.func146,Tryz.ntmps146
    go_wp2_with (first
     |(go_at_call 90;(with_reducible refine(HN.out _).mono ?_);rintro e w1 ⟨rfl,hw1⟩;subst hw1)
     |(go_at_call 174;(with_reducible refine(HM.out _).mono ?_);rintro e w1 ⟨rfl,HBc1⟩;have HB1:=Hd (HB0.out.trans (HBc1.mono HB0.out.size));have HA1:=Hd (HA0.out.below HBc1);obtain⟨c10,c11,c12,c13,c14,_⟩:=HA1.out;clear HBc1)
     |fail)
    all_goals
     go_ret
     first|exact⟨Af (HT.out.trans (F1 (by assumption) (by assumption) (by assumption))).symm,HB1.out⟩|exact⟨Af (HT.out.trans (Ip (by assumption))).symm,HB1.out⟩|exact⟨Af (HT.out.trans (F2 (by assumption))).symm,HB1.out⟩|exact⟨Af (HT.out.trans (F3 (by assumption))).symm,HB1.out⟩
   ·rw[if_neg ho]at hT
    have hd:(op==0)=false:=by simpa using ho
    cases hfl:BU s with
    |true=>
     simp only[hfl,Bool.not_true,Bool.false_and]at hT HF
     subst hT
     clear hn hm ho hfl
     go_enter Tryz.func146,Tryz.ntmps146
     go_wp2_with (first
      |(go_at_call 90;(with_reducible refine(HN.out _).mono ?_);rintro e w1 ⟨rfl,hw1⟩;subst hw1)
      |(go_at_call 174;(with_reducible refine(HM.out _).mono ?_);rintro e w1 ⟨rfl,HBc1⟩;have HB1:=Hd (HB0.out.trans (HBc1.mono HB0.out.size));have HA1:=Hd (HA0.out.below HBc1);obtain⟨c10,c11,c12,c13,c14,_⟩:=HA1.out;clear HBc1)
      |(go_at_call 91;(with_reducible refine(HF.out _).mono ?_);rintro e w9 ⟨rfl,hw9⟩;subst hw9)
      |fail)
     go_ret
     exact⟨rfl,HB1.out⟩
    |false=>
     simp only[hfl,Bool.not_false,Bool.true_and]at hT HF
     subst hT
     clear hn hm ho hfl
     go_enter Tryz.func146,Tryz.ntmps146
     go_wp2_with (first
      |(go_at_call 90;(with_reducible refine(HN.out _).mono ?_);rintro e w1 ⟨rfl,hw1⟩;subst hw1)
      |(go_at_call 174;(with_reducible refine(HM.out _).mono ?_);rintro e w1 ⟨rfl,HBc1⟩;have HB1:=Hd (HB0.out.trans (HBc1.mono HB0.out.size));have HA1:=Hd (HA0.out.below HBc1);obtain⟨c10,c11,c12,c13,c14,_⟩:=HA1.out;clear HBc1)
      |(go_at_call 91;(with_reducible refine(HF.out _).mono ?_);rintro e w9 ⟨rfl,hw9⟩;subst hw9)
      |(go_at_call 92;(with_reducible refine(HE.out _).mono ?_);rintro e w2 ⟨rfl,HBc2⟩;have HB2:=Hd (HB1.out.trans (HBc2.mono HB1.out.size));clear HBc2)
      |fail)
     go_ret
     exact⟨rfl,HB2.out⟩
inductive Ac where
 |nil
 |node (kind:Int) (dep:Ax) (n:Nat) (args:Nat→Ac)
abbrev EI:Ax:=⟨⟨#[]⟩,0,0,⟨#[]⟩,⟨#[]⟩⟩
def Ac.kind:Ac→Int| .nil=>0| .node k _ _ _=>k
def Ac.dep:Ac→Ax| .nil=>EI| .node _ d _ _=>d
def Ac.n:Ac→Nat| .nil=>0| .node _ _ n _=>n
def Ac.args:Ac→Nat→Ac| .nil=>fun _=> .nil| .node _ _ _ f=>f
abbrev Be (k:Int) (d:Ax) (s:Value):Value:= .agg #[.int .u8 k,.string d.name,.int .u8 d.op,.int .i64 d.ep,.string d.ver,.string d.rel,s]
abbrev Ac.val (r:Ac) (s:Value):Value:=Be r.kind r.dep s
structure AH (w:World) (b o:Nat) (r:Ac) (s:Value):Prop where
 c0:w.cell? ⟨b,o,none⟩=some (.int .u8 r.kind)
 c1:w.cell? ⟨b,o+1,none⟩=some (.string r.dep.name)
 c2:w.cell? ⟨b,o+2,none⟩=some (.int .u8 r.dep.op)
 c3:w.cell? ⟨b,o+3,none⟩=some (.int .i64 r.dep.ep)
 c4:w.cell? ⟨b,o+4,none⟩=some (.string r.dep.ver)
 c5:w.cell? ⟨b,o+5,none⟩=some (.string r.dep.rel)
 c6:w.cell? ⟨b,o+6,none⟩=some s
 lt:b<w.heap.size
theorem AH.below {w w':World} {b o:Nat} {r:Ac} {s:Value} (h:AH w b o r s) (hb:Below w.heap.size w w'):AH w' b o r s:=by
 have k:∀c,w'.cell? ⟨b,c,none⟩=w.cell? ⟨b,c,none⟩:=fun c=>World.cell?_of_block (w:=w) (hb.block b h.lt)
 exact⟨(k _).trans h.c0,(k _).trans h.c1,(k _).trans h.c2,(k _).trans h.c3,(k _).trans h.c4,(k _).trans h.c5,(k _).trans h.c6,Nat.lt_of_lt_of_le h.lt hb.size⟩
def Fd (k:Int) (d:Ax):Prop:=d.fit∧0≤k∧k<256
inductive Au (w:World):Ac→Value→Prop
 |mk (r:Ac) (a:Option Addr) (c:Nat) (S:Nat→Value) (hd:Fd r.kind r.dep) (hn:r.n≤9223372036854775807)
   (hA:∀j,j<r.n→∃b o,a=some ⟨b,o,none⟩∧AH w b (o+j*7) (r.args j) (S j))
   (hS:∀j,j<r.n→Au w (r.args j) (S j)):Au w r (.slice a r.n c)
theorem Au.kept {w w':World} {r:Ac} {s:Value} (h:Au w r s) (hb:Below w.heap.size w w'):Au w' r s:=by
 induction h with
 |mk r a c S hd hn hA hS ih=>
  refine .mk r a c S hd hn (fun j hj=> ?_) ih
  obtain⟨b,o,h1,h2⟩:=hA j hj
  exact⟨b,o,h1,h2.below hb⟩
def Bz (f:Nat→Nat):Nat→Nat|0=>0|k+1=>Bz f k+f k
def E9 (f:Nat→Nat):Nat→Nat|0=>0|k+1=>max (E9 f k) (f k)
def Ac.count:Ac→Nat| .nil=>1| .node _ _ n f=>1+Bz (fun j=>(f j).count) n
def Ac.depth:Ac→Nat| .nil=>1| .node k _ n f=>if k=1 then 0 else E9 (fun j=>(f j).depth) n+1
theorem Df {f:Nat→Nat} {k n:Nat} (h:k≤n):Bz f k≤Bz f n:=by
 induction h with
 |refl=>exact Nat.le_refl _
 |step _ ih=>exact Nat.le_trans ih (Nat.le_add_right _ _)
theorem BX (r:Ac):r.count=1+Bz (fun j=>(r.args j).count) r.n:=by
 cases r<;>rfl
theorem JW (r:Ac):r.depth=if r.kind=1 then 0 else E9 (fun j=>(r.args j).depth) r.n+1:=by
 cases r<;>rfl
theorem CW {a b:Int} (h:a=b):Ending.returned (.int .i64 a)= .returned (.int .i64 b):=by rw[h]
theorem C6 (w:World) (r:Ac) (s:Value):AH (w.alloc (.cells #[.int .u8 r.kind,.string r.dep.name,.int .u8 r.dep.op,.int .i64 r.dep.ep,.string r.dep.ver,.string r.dep.rel,s] 34)) w.heap.size 0 r s:=
 ⟨by simp,by simp,by simp,by simp,by simp,by simp,by simp,by simp⟩
theorem Kq (W:World) (r:Ac) (s:Value) (hs:Au W r s) (w:World) (hB:Below W.heap.size W w) (hc:r.count≤4611686018427387904):Calls Tryz.prog 175 #[r.val s] w fun e w'=>e= .returned (.int .i64 r.count)∧Below w.heap.size w w':=by
 induction hs generalizing w with
 |mk r a c S hd hn hA hS ih=>
  obtain⟨T,hT⟩:∃T:Int,T=r.count:=⟨_,rfl⟩
  rw[←hT]
  have HT:=Hd hT
  have HR0:=Hd (C6 w r (.slice a r.n c))
  have HB0:=Hd (show Below w.heap.size w (w.alloc (.cells #[.int .u8 r.kind,.string r.dep.name,.int .u8 r.dep.op,.int .i64 r.dep.ep,.string r.dep.ver,.string r.dep.rel,.slice a r.n c] 34))from(Below.refl _ _).alloc (Nat.le_refl _) _)
  have HA:=Hd (show∀w',Below W.heap.size W w'→∀j,j<r.n→∃b o,a=some ⟨b,o,none⟩∧AH w' b (o+j*7) (r.args j) (S j)from fun w' h j hj=>by
   obtain⟨b,o,h1,h2⟩:=hA j hj
   exact⟨b,o,h1,h2.below h⟩)
  have HI:=Hd ih
  have HBW:=Hd hB
  have HC:=Hd (show∀j,j<r.n→1+Bz (fun j=>(r.args j).count) j+(r.args j).count≤r.count∧r.count≤4611686018427387904 from fun j hj=>by
   have:=Df (f:=fun j=>(r.args j).count) (show j+1≤r.n by omega)
   simp only[Bz]at this
   have:=BX r
   omega)
  clear hT hA hS ih hd hc hB
  unfold Ac.val Be
  go_enter Tryz.func175,Tryz.ntmps175
  go_wp2_with fail
  go_loopw [3,4] (fun x i wr=>∃k q:Nat,k≤r.n∧Hid (q=1+Bz (fun j=>(r.args j).count) k)∧x= .int .i64 (q:Int)∧i= .int .i64 k∧Hid (AH wr w.heap.size 0 r (.slice a r.n c))∧Hid (Below w.heap.size w wr)) (fun x i wr=>r.n-(intOf i).toNat)
  case atStart=>exact⟨0,1,by omega,Hd rfl,rfl,rfl,HR0,HB0⟩
  case round=>
   obtain⟨k,q,hk,HQ,rfl,rfl,HRk,HBk⟩:=hrel
   obtain⟨d0,d1,d2,d3,d4,d5,d6,d7⟩:=HRk.out
   by_cases hlt:k<r.n
   ·have hki:(k:Int)<(r.n:Int):=by omega
    have HB2:=Hd (HBW.out.trans (HBk.out.mono HBW.out.size))
    obtain⟨b,o,ha,⟨e0,e1,e2,e3,e4,e5,e6,e7⟩⟩:=HA.out _ HB2.out k hlt
    subst ha
    obtain⟨m,hm⟩:∃m,m=(r.args k).count:=⟨_,rfl⟩
    have hqm:q+m≤4611686018427387904:=by
     have h1:=HC.out k hlt
     have h2:=HQ.out
     omega
    have HM:=Hd (HI.out k hlt _ HB2.out (by have:=HC.out k hlt;omega))
    rw[←hm]at HM
    have HMm:=Hd hm
    clear hm
    go_wp2_with (first
     |(go_at_call 175;(with_reducible refine(HM.out).mono ?_);rintro e w1 ⟨rfl,HBc⟩;have HB1:=Hd (HBk.out.trans (HBc.mono HBk.out.size));have HR1:=Hd (HRk.out.below HBc);clear HBc)
     |fail)
    go_roundw
    case rel=>exact⟨k+1,q+m,by omega,Hd (by have:=HQ.out;have:=HMm.out;simp only[Bz];omega),by go_num,by go_num,HR1,HB1⟩
    case measure=>simp[intOf];omega
   ·obtain rfl:k=r.n:=by omega
    go_wp2_with fail
    go_ret
    exact⟨CW (by rw[HT.out,BX,HQ.out]),HBk.out⟩
theorem FQ {f:Nat→Nat} {g:Nat→Nat}:∀n,(∀j,j<n→f j≤g j)→E9 f n≤Bz g n
 |0,_=>Nat.le_refl _
 |n+1,h=>by
  have h1:=FQ n (fun j hj=>h j (by omega))
  have h2:=h n (by omega)
  simp only[E9,Bz]
  omega
theorem Dm:(r:Ac)→r.depth≤r.count
 | .nil=>Nat.le_refl _
 | .node k d n f=>by
   have h:=FQ (f:=fun j=>(f j).depth) (g:=fun j=>(f j).count) n (fun j _=>Dm (f j))
   simp only[Ac.depth,Ac.count]
   split<;>omega
theorem Ko (W:World) (r:Ac) (s:Value) (hs:Au W r s) (w:World) (hB:Below W.heap.size W w) (hc:r.count≤4611686018427387904):Calls Tryz.prog 176 #[r.val s] w fun e w'=>e= .returned (.int .i64 r.depth)∧Below w.heap.size w w':=by
 induction hs generalizing w with
 |mk r a c S hd hn hA hS ih=>
  obtain⟨T,hT⟩:∃T:Int,T=r.depth:=⟨_,rfl⟩
  rw[←hT]
  have HR0:=Hd (C6 w r (.slice a r.n c))
  have HB0:=Hd (show Below w.heap.size w (w.alloc (.cells #[.int .u8 r.kind,.string r.dep.name,.int .u8 r.dep.op,.int .i64 r.dep.ep,.string r.dep.ver,.string r.dep.rel,.slice a r.n c] 34))from(Below.refl _ _).alloc (Nat.le_refl _) _)
  have HA:=Hd (show∀w',Below W.heap.size W w'→∀j,j<r.n→∃b o,a=some ⟨b,o,none⟩∧AH w' b (o+j*7) (r.args j) (S j)from fun w' h j hj=>by
   obtain⟨b,o,h1,h2⟩:=hA j hj
   exact⟨b,o,h1,h2.below h⟩)
  have HI:=Hd ih
  have HBW:=Hd hB
  have HC:=Hd (show∀j,j<r.n→(r.args j).depth≤4611686018427387904∧(r.args j).count≤4611686018427387904 from fun j hj=>by
   have h1:=Df (f:=fun j=>(r.args j).count) (show j+1≤r.n by omega)
   simp only[Bz]at h1
   have h2:=BX r
   have h3:=Dm (r.args j)
   omega)
  have HD:=Hd (show E9 (fun j=>(r.args j).depth) r.n≤4611686018427387904 from by
   have h1:=FQ (f:=fun j=>(r.args j).depth) (g:=fun j=>(r.args j).count) r.n (fun j _=>Dm _)
   have h2:=BX r
   omega)
  rw[JW]at hT
  by_cases hk1:r.kind=1
  ·rw[if_pos hk1]at hT
   obtain rfl:T=0:=hT
   have hkd:(r.kind==1)=true:=by simpa using hk1
   clear hA hS ih hd hc hB hk1
   unfold Ac.val Be
   go_enter Tryz.func176,Tryz.ntmps176
   go_wp2_with fail
   go_ret
   exact⟨rfl,HB0.out⟩
  ·rw[if_neg hk1]at hT
   have HT:=Hd hT
   have hkd:(r.kind==1)=false:=by simpa using hk1
   clear hT hA hS ih hd hc hB
   unfold Ac.val Be
   go_enter Tryz.func176,Tryz.ntmps176
   go_wp2_with fail
   go_loopw [3,4] (fun x i wr=>∃k q:Nat,k≤r.n∧Hid (q=E9 (fun j=>(r.args j).depth) k)∧x= .int .i64 (q:Int)∧i= .int .i64 k∧Hid (AH wr w.heap.size 0 r (.slice a r.n c))∧Hid (Below w.heap.size w wr)) (fun x i wr=>r.n-(intOf i).toNat)
   case atStart=>exact⟨0,0,by omega,Hd rfl,rfl,rfl,HR0,HB0⟩
   case round=>
    obtain⟨k,q,hk,HQ,rfl,rfl,HRk,HBk⟩:=hrel
    obtain⟨d0,d1,d2,d3,d4,d5,d6,d7⟩:=HRk.out
    by_cases hlt:k<r.n
    ·have hki:(k:Int)<(r.n:Int):=by omega
     have HB2:=Hd (HBW.out.trans (HBk.out.mono HBW.out.size))
     obtain⟨b,o,ha,⟨e0,e1,e2,e3,e4,e5,e6,e7⟩⟩:=HA.out _ HB2.out k hlt
     subst ha
     obtain⟨m,hm⟩:∃m,m=(r.args k).depth:=⟨_,rfl⟩
     have HM:=Hd (HI.out k hlt _ HB2.out (HC.out k hlt).2)
     rw[←hm]at HM
     have HMm:=Hd hm
     clear hm
     by_cases hmq:q<m
     ·have hmq':decide ((q:Int)<(m:Int))=true:=by rw[decide_eq_true];omega
      go_wp2_with (first
       |(go_at_call 176;(with_reducible refine(HM.out).mono ?_);rintro e w1 ⟨rfl,HBc⟩;have HB1:=Hd (HBk.out.trans (HBc.mono HBk.out.size));have HR1:=Hd (HRk.out.below HBc);clear HBc)
       |fail)
      go_roundw
      case rel=>exact⟨k+1,m,by omega,Hd (by have:=HQ.out;have:=HMm.out;simp only[E9];omega),by go_num,by go_num,HR1,HB1⟩
      case measure=>simp[intOf];omega
     ·have hmq':decide ((q:Int)<(m:Int))=false:=by rw[decide_eq_false];omega
      go_wp2_with (first
       |(go_at_call 176;(with_reducible refine(HM.out).mono ?_);rintro e w1 ⟨rfl,HBc⟩;have HB1:=Hd (HBk.out.trans (HBc.mono HBk.out.size));have HR1:=Hd (HRk.out.below HBc);clear HBc)
       |fail)
      go_roundw
      case rel=>exact⟨k+1,q,by omega,Hd (by have:=HQ.out;have:=HMm.out;simp only[E9];omega),by go_num,by go_num,HR1,HB1⟩
      case measure=>simp[intOf];omega
    ·obtain rfl:k=r.n:=by omega
     have hq2:q≤4611686018427387904:=by have:=HD.out;have:=HQ.out;omega
     go_wp2_with fail
     go_ret
     exact⟨CW (by rw[HT.out,←HQ.out];rfl),HBk.out⟩
theorem Au.form {w:World} {r:Ac} {s:Value} (h:Au w r s):∃a c,s= .slice a r.n c:=by
 cases h
 exact⟨_,_,rfl⟩
abbrev AT (r:Ac) (s:Value):Obj:= .cells #[.int .u8 r.kind,.string r.dep.name,.int .u8 r.dep.op,.int .i64 r.dep.ep,.string r.dep.ver,.string r.dep.rel,s] 34
theorem AL (w:World) (o:Obj):Below w.heap.size w (w.alloc o):=(Below.refl _ _).alloc (Nat.le_refl _) _
theorem MV (W:World) (r:Ac) (s:Value) (hs:Au W r s) (w:World) (hB:Below W.heap.size W w) (hc:r.count≤4611686018427387904):Calls Tryz.prog 127 #[r.val s] w fun e w'=>e= .returned (.int .i64 r.depth)∧Below w.heap.size w w':=by
 induction hs generalizing w with
 |mk r a c S hd hn hA hS ih=>
  obtain⟨T,hT⟩:∃T:Int,T=r.depth:=⟨_,rfl⟩
  rw[←hT]
  have HR0:=Hd (C6 w r (.slice a r.n c))
  have HB0:=Hd (show Below w.heap.size w (w.alloc (.cells #[.int .u8 r.kind,.string r.dep.name,.int .u8 r.dep.op,.int .i64 r.dep.ep,.string r.dep.ver,.string r.dep.rel,.slice a r.n c] 34))from(Below.refl _ _).alloc (Nat.le_refl _) _)
  have HA:=Hd (show∀w',Below W.heap.size W w'→∀j,j<r.n→∃b o,a=some ⟨b,o,none⟩∧AH w' b (o+j*7) (r.args j) (S j)from fun w' h j hj=>by
   obtain⟨b,o,h1,h2⟩:=hA j hj
   exact⟨b,o,h1,h2.below h⟩)
  have HI:=Hd ih
  have HSf:=Hd (show∀j,j<r.n→∃a' c',S j= .slice a' (r.args j).n c' from fun j hj=>(hS j hj).form)
  have HBW:=Hd hB
  have HC:=Hd (show∀j,j<r.n→(r.args j).depth≤4611686018427387904∧(r.args j).count≤4611686018427387904 from fun j hj=>by
   have h1:=Df (f:=fun j=>(r.args j).count) (show j+1≤r.n by omega)
   simp only[Bz]at h1
   have h2:=BX r
   have h3:=Dm (r.args j)
   omega)
  have HD:=Hd (show E9 (fun j=>(r.args j).depth) r.n≤4611686018427387904 from by
   have h1:=FQ (f:=fun j=>(r.args j).depth) (g:=fun j=>(r.args j).count) r.n (fun j _=>Dm _)
   have h2:=BX r
   omega)
  rw[JW]at hT
  by_cases hk1:r.kind=1
  ·rw[if_pos hk1]at hT
   obtain rfl:T=0:=hT
   have hkd:(r.kind==1)=true:=by simpa using hk1
   clear hA hS ih hd hc hB hk1
   unfold Ac.val Be
   go_enter Tryz.func127,Tryz.ntmps127
   go_wp2_with fail
   go_ret
   exact⟨rfl,HB0.out⟩
  ·rw[if_neg hk1]at hT
   have HT:=Hd hT
   have hkd:(r.kind==1)=false:=by simpa using hk1
   clear hT hA hS ih hd hc hB
   unfold Ac.val Be
   go_enter Tryz.func127,Tryz.ntmps127
   go_wp2_with fail
   go_loopw [3,12] (fun x i wr=>∃k q:Nat,k≤r.n∧Hid (q=E9 (fun j=>(r.args j).depth) k)∧x= .int .i64 (q:Int)∧i= .int .i64 k∧Hid (AH wr w.heap.size 0 r (.slice a r.n c))∧Hid (Below w.heap.size w wr)) (fun x i wr=>r.n-(intOf i).toNat)
   case atStart=>exact⟨0,0,by omega,Hd rfl,rfl,rfl,HR0,HB0⟩
   case round=>
    obtain⟨k,q,hk,HQ,rfl,rfl,HRk,HBk⟩:=hrel
    obtain⟨d0,d1,d2,d3,d4,d5,d6,d7⟩:=HRk.out
    by_cases hlt:k<r.n
    ·have hki:(k:Int)<(r.n:Int):=by omega
     have HB2:=Hd (HBW.out.trans (HBk.out.mono HBW.out.size))
     obtain⟨b,o,ha,⟨e0,e1,e2,e3,e4,e5,e6,e7⟩⟩:=HA.out _ HB2.out k hlt
     subst ha
     obtain⟨m,hm⟩:∃m,m=(r.args k).depth:=⟨_,rfl⟩
     obtain⟨a',c',hS'⟩:=HSf.out k hlt
     have HB3:=Hd (HBk.out.trans ((AL wr (AT (r.args k) (S k))).mono HBk.out.size))
     have HR3:=Hd (HRk.out.below (AL wr (AT (r.args k) (S k))))
     have HM:=Hd (HI.out k hlt (wr.alloc (AT (r.args k) (S k))) (HB2.out.trans ((AL _ _).mono HB2.out.size)) (HC.out k hlt).2)
     rw[←hm]at HM
     simp only[hS']at HM HB3 HR3 e6
     have HMm:=Hd hm
     clear hm
     by_cases hmq:q<m
     ·have hmq':decide ((q:Int)<(m:Int))=true:=by rw[decide_eq_true];omega
      go_wp2_with (first
       |(go_at_call 127;(with_reducible refine(HM.out).mono ?_);rintro e w1 ⟨rfl,HBc⟩;have HB1:=Hd (HB3.out.trans (HBc.mono HB3.out.size));have HR1:=Hd (HR3.out.below HBc);clear HBc)
       |fail)
      go_roundw
      case rel=>exact⟨k+1,m,by omega,Hd (by have:=HQ.out;have:=HMm.out;simp only[E9];omega),by go_num,by go_num,HR1,HB1⟩
      case measure=>simp[intOf];omega
     ·have hmq':decide ((q:Int)<(m:Int))=false:=by rw[decide_eq_false];omega
      go_wp2_with (first
       |(go_at_call 127;(with_reducible refine(HM.out).mono ?_);rintro e w1 ⟨rfl,HBc⟩;have HB1:=Hd (HB3.out.trans (HBc.mono HB3.out.size));have HR1:=Hd (HR3.out.below HBc);clear HBc)
       |fail)
      go_roundw
      case rel=>exact⟨k+1,q,by omega,Hd (by have:=HQ.out;have:=HMm.out;simp only[E9];omega),by go_num,by go_num,HR1,HB1⟩
      case measure=>simp[intOf];omega
    ·obtain rfl:k=r.n:=by omega
     have hq2:q≤4611686018427387904:=by have:=HD.out;have:=HQ.out;omega
     go_wp2_with fail
     go_ret
     exact⟨CW (by rw[HT.out,←HQ.out];rfl),HBk.out⟩
open Go.ChangeShapes Go.WideShapes Go.ChangeAt Go.RowKit Go.Deep Go.Shelf
attribute [local go_sem] Oper.semAt_some
def Rg:Obj→Bool| .cells _ t _=>t==32|_=>false
structure KC (B:Nat) (W W':World):Prop where
 size:W.heap.size≤W'.heap.size
 cells:∀k o,k≠B→W.heap[k]?=some o→o.isCells=true→Rg o=false→W'.heap[k]?=some o
theorem KC.refl (B:Nat) (W:World):KC B W W:=⟨Nat.le_refl _,fun _ _ _ h _ _=>h⟩
theorem KC.trans {B:Nat} {W W' W'':World} (h:KC B W W') (k:KC B W' W''):KC B W W'':=⟨Nat.le_trans h.size k.size,fun i o hi ho hc hd=>k.cells i o hi (h.cells i o hi ho hc hd) hc hd⟩
theorem KC.blk {B:Nat} {W W':World} (h:KC B W W') {k:Nat} {t:TypeId} {cs:Array Value} (hk:k≠B) (hv:Blk W k t cs) (ht:(t==32)=false):Blk W' k t cs:=h.cells k _ hk hv rfl ht
theorem KC.of_below {B:Nat} {W W':World} (h:Below W.heap.size W W'):KC B W W':=⟨h.size,fun k _ _ ho _ _=>(h.block k (Array.getElem?_eq_some_iff.1 ho).1).trans ho⟩
structure Kp (B n0:Nat) (W W':World):Prop where
 kc:KC B W W'
 bl:Below n0 W W'
theorem Kp.refl (B n0:Nat) (W:World):Kp B n0 W W:=⟨KC.refl _ _,Below.refl _ _⟩
theorem Kp.t {B n0:Nat} {W W' W'':World} (h:Kp B n0 W W') (k:Kp B n0 W' W''):Kp B n0 W W'':=⟨h.kc.trans k.kc,h.bl.trans k.bl⟩
theorem Kp.of_below {B n0:Nat} {W W':World} (hn:n0≤W.heap.size) (h:Below W.heap.size W W'):Kp B n0 W W':=⟨KC.of_below h,h.mono hn⟩
theorem Kp.b {B n0:Nat} {w:World} (hn:n0≤w.heap.size) (W:World) (l:Nat) (o o':Obj) (hl:w.heap.size≤l) (hlo:W.heap[l]?=some o) (hc:o.isCells=false) (_:o.isWalk=false):Kp B n0 W (W.putObj l o'):=by
 have hg:=grownBy_putObj' W l o'
 refine⟨⟨hg.size,fun k o2 _ ho hc2 _=> ?_⟩,hg.os,hg.tape,hg.output,hg.size,fun k hk=> ?_⟩
 ·by_cases e:k=l
  ·subst e
   rw[hlo]at ho
   injection ho with ho
   subst ho
   rw[hc]at hc2
   cases hc2
  ·exact(hg.block k (Array.getElem?_eq_some_iff.1 ho).1 (fun h=>e (by injection h))).trans ho
 ·by_cases hkW:k<W.heap.size
  ·exact hg.block k hkW (fun h=>by injection h with h;omega)
  ·have:=(Array.getElem?_eq_some_iff.1 hlo).1
   omega
def A6 (W:World) (b:Nat) (r:Ac) (s:Value):Prop:=Blk W b 34 #[.int .u8 r.kind,.string r.dep.name,.int .u8 r.dep.op,.int .i64 r.dep.ep,.string r.dep.ver,.string r.dep.rel,s]
theorem A6.kc {B:Nat} {W W':World} {b:Nat} {r:Ac} {s:Value} (h:A6 W b r s) (hk:KC B W W') (hb:b≠B):A6 W' b r s:=hk.blk hb h rfl
theorem A6.at_ {W:World} {b:Nat} {r:Ac} {s:Value} (h:A6 W b r s):AH W b 0 r s:=⟨h.cell 0,h.cell 1,h.cell 2,h.cell 3,h.cell 4,h.cell 5,h.cell 6,h.lt⟩
theorem A6.new (w:World) (r:Ac) (s:Value):A6 (w.alloc (AT r s)) w.heap.size r s:=Blk.new _ _ _
theorem A6.below {W W':World} {b:Nat} {r:Ac} {s:Value} (h:A6 W b r s) (hb:Below W.heap.size W W'):A6 W' b r s:=Blk.below h hb h.lt
structure By where
 kind:Int
 dep:Ax
 n:Nat
 a:Option Addr
 c:Nat
 alone:Bool
 fit:Fd kind dep
 hn:n≤9223372036854775807
abbrev PB (x:By):Array Value:= #[Be x.kind x.dep (.slice x.a x.n x.c),.bool x.alone]
abbrev OJ:=Int×Ax×Nat×Bool
def By.key (x:By):OJ:=(x.kind,x.dep,x.n,x.alone)
def B3 {α:Type} (f:Nat→List α):Nat→List α|0=> []|k+1=>B3 f k++f k
def A0 (k:Int) (al:Bool):Bool:=al||k==6||k==7
def Ac.parts:Ac→Bool→List OJ
 | .nil,al=> [(0,EI,0,al)]
 | .node k d n f,al=>(k,d,n,al)::B3 (fun j=>(f j).parts (al||k==6||k==7)) n
theorem Jm (r:Ac) (al:Bool):r.parts al=(r.kind,r.dep,r.n,al)::B3 (fun j=>(r.args j).parts (A0 r.kind al)) r.n:=by
 cases r<;>rfl
theorem GP {α:Type} {f:Nat→List α} {g:Nat→Nat}:∀n,(∀j,j<n→(f j).length=g j)→(B3 f n).length=Bz g n
 |0,_=>rfl
 |n+1,h=>by
  simp only[B3,Bz,List.length_append]
  rw[GP n (fun j hj=>h j (by omega)),h n (by omega)]
theorem E6:(r:Ac)→(al:Bool)→(r.parts al).length=r.count
 | .nil,_=>rfl
 | .node k d n f,al=>by
   simp only[Ac.parts,Ac.count,List.length_cons]
   rw[GP n (fun j _=>E6 (f j) _)]
   omega
theorem Oz {α:Type} {f:Nat→List α} {k n:Nat} (h:k≤n):B3 f k<+:B3 f n:=by
 induction h with
 |refl=>exact List.prefix_refl _
 |step _ ih=>exact ih.trans (List.prefix_append _ _)
attribute [local go_sem] Oper.semAt_some
theorem Mf {F:Fence} (hd:F.depth=none) {m m':Nat} {P:Program} {l:Nat} {f:FuncId} {tmps:Array Value} {assign body:Code} {w:World} {R:Ending→World→Prop}
 (h:RoundIn F m P l f tmps assign body w R):RoundIn F m' P l f tmps assign body w R:=⟨h.1,fun c cs _=>h.2 c cs (fun d h=>by rw[hd]at h;cases h)⟩
theorem G4 {F:Fence} (hd:F.depth=none) {m:Nat} (m':Nat) {P:Program} {l:Nat} {args:Array Value} {W:World} {R:Ending→World→Prop} (h:YieldAt F m P l args W R):YieldAt F m' P l args W R:=by
 obtain⟨fn,tmps,assign,body,hy,hR⟩:=h
 exact⟨fn,tmps,assign,body,hy,Mf hd hR⟩
abbrev Et (Bt:Nat):Value:= .func (.func 163) #[] #[.pointer (some ⟨Bt,0,none⟩)]
theorem FY {W:World} {k i:Nat} {v:Value} (h:W.cell? ⟨k,i,none⟩=some v):k<W.heap.size:=by
 cases ho:W.heap[k]? with
 |none=>simp[World.cell?,ho]at h
 |some o=>exact(Array.getElem?_eq_some_iff.1 ho).1
theorem PT {α:Type} {f:Nat→List α} {k n:Nat} {zs:List α} (hk:k<n) (h:zs<+:f k):B3 f k++zs<+:B3 f n:=
 ((List.prefix_append_right_inj _).2 h).trans (Oz (f:=f) (show k+1≤n by omega))
theorem OR (W0:World) (l Bt B N:Nat) (hB0:W0.heap.size≤B) (hBt:Bt≠B) (J Jx:List By→World→Prop)
 (hJ:∀ys W o,J ys W→J ys (W.alloc o))
 (hY:∀m pre x W,J pre W→pre.length<N→YieldAt Fence.wide m Tryz.prog l (PB x) W fun e W'=>
   (e= .returned (.bool true)∧J (pre++ [x]) W'∧Kp B W0.heap.size W W')∨(e= .returned (.bool false)∧Jx (pre++ [x]) W'))
 (r:Ac) (s:Value) (hs:Au W0 r s):∀(n:Nat) (pre:List By) (al:Bool) (W:World),Below W0.heap.size W0 W→W0.heap.size≤W.heap.size→B<W.heap.size→Blk W Bt 191 #[Et Bt]→J pre W→pre.length+r.count≤N→
   CallsIn Fence.wide n Tryz.prog 163 #[r.val s,.bool al,.func (.yield l) #[] #[],.pointer (some ⟨Bt,0,none⟩)] W fun e W'=>
    (e= .returned (.bool true)∧(∃ys:List By,ys.map By.key=r.parts al∧J (pre++ys) W')∧Kp B W0.heap.size W W')∨(e= .returned (.bool false)∧∃ys:List By,ys.map By.key<+:r.parts al∧Jx (pre++ys) W'):=by
 have _hb:=hB0
 induction hs with
 |mk r a c S hd hn hA hS ih=>
  intro n pre al W hW hWs hBW hcB hJp hN
  have hdd:∀k:Nat,(Fence.wide.depth.isSome=true→1≤k):=fun k h=>by cases h
  have hb1:Below W.heap.size W (W.alloc (AT r (.slice a r.n c))):=AL _ _
  have hk1:Kp B W0.heap.size W (W.alloc (AT r (.slice a r.n c))):=Kp.of_below hWs hb1
  have hr1:=A6.new W r (.slice a r.n c)
  have hlen:=Jm r al
  have hcnt:=BX r
  obtain⟨x,hx⟩:∃x:By,x=⟨r.kind,r.dep,r.n,a,c,al,hd,hn⟩:=⟨_,rfl⟩
  obtain⟨al',hal⟩:∃al',al'=A0 r.kind al:=⟨_,rfl⟩
  obtain⟨fn,tmps,assign,body,hy,hR0⟩:=hY (n-1) pre x _ (hJ pre W (AT r (.slice a r.n c)) hJp) (by omega)
  have HxK:=Hd (show x.key=(r.kind,r.dep,r.n,al) by rw[hx];rfl)
  obtain⟨f,hf⟩:∃f:Nat→List OJ,f=fun j=>(r.args j).parts al':=⟨_,rfl⟩
  have HP:=Hd (show r.parts al=(r.kind,r.dep,r.n,al)::B3 f r.n by rw[Jm,hf,hal])
  have HF:=Hd (show∀j,f j=(r.args j).parts al' from fun j=>by rw[hf])
  have HC:=Hd (show∀k (ys:List By),k<r.n→ys.map By.key=B3 f k→ys.length+(r.args k).count+1≤r.count from fun k ys hk h=>by
   have h1:=congrArg List.length h
   rw[List.length_map,GP (g:=fun j=>(r.args j).count) k (fun j _=>by rw[hf];exact E6 _ _)]at h1
   have h2:=Df (f:=fun j=>(r.args j).count) (show k+1≤r.n by omega)
   simp only[Bz]at h2
   have h3:=BX r
   omega)
  clear hf
  have hR:=hR0.mono (R':=fun e W2=>(e= .returned (.bool true)∧Hid (J (pre++ [x]) W2)∧Hid (Kp B W0.heap.size W W2)∧Hid (A6 W2 W.heap.size r (.slice a r.n c))∧W2.cell? ⟨W.heap.size,0,none⟩=some (.int .u8 r.kind)∧W2.cell? ⟨W.heap.size,6,none⟩=some (.slice a r.n c))∨(e= .returned (.bool false)∧Hid (Jx (pre++ [x]) W2)))
   (fun e W2 h=>h.elim (fun⟨he,hj,hk⟩=>by
     have hr2:=hr1.kc hk.kc (by omega)
     exact .inl ⟨he,Hd hj,Hd (hk1.t hk),Hd hr2,hr2.at_.c0,hr2.at_.c6⟩) (fun⟨he,hj⟩=> .inr ⟨he,Hd hj⟩))
  have HI:=Hd (fun j hj n pre W=>ih j hj n pre al' W)
  have HA:=Hd (show∀w',Below W0.heap.size W0 w'→∀j,j<r.n→∃b o,a=some ⟨b,o,none⟩∧AH w' b (o+j*7) (r.args j) (S j)from fun w' h j hj=>by
   obtain⟨b,o,h1,h2⟩:=hA j hj
   exact⟨b,o,h1,h2.below h⟩)
  have HSf:=Hd (show∀j,j<r.n→∃a' c',S j= .slice a' (r.args j).n c' from fun j hj=>(hS j hj).form)
  have HW:=Hd (⟨hW,hWs,hBW,hN⟩:Below W0.heap.size W0 W∧W0.heap.size≤W.heap.size∧B<W.heap.size∧pre.length+r.count≤N)
  have HcB:=Hd hcB
  rw[hx]at hy
  dsimp only[PB]at hy
  clear hR0 hb1 hk1 hr1 hlen hcnt hx hA hS ih hW hWs hBW hN hcB hJp
  have hcase:(al=true∧al'=true)∨(al=false∧(r.kind==6)=true∧al'=true)∨(al=false∧(r.kind==6)=false∧(r.kind==7)=true∧al'=true)∨(al=false∧(r.kind==6)=false∧(r.kind==7)=false∧al'=false):=by
   rw[hal]
   unfold A0
   cases al<;>cases (r.kind==6)<;>cases (r.kind==7)<;>simp
  clear hal
  refine callsIn_of_wp Tryz.func163 rfl trivial ?_ rfl
  simp only[Tryz.ntmps163,List.size_toArray,List.length_cons,List.length_nil,Nat.reduceAdd,Nat.reduceSub,Array.replicate_succ,Array.replicate_zero,List.push_toArray,List.append_toArray,List.nil_append,List.cons_append]
  unfold Ac.val Be
  rcases hcase with ⟨rfl,rfl⟩|⟨rfl,k6,rfl⟩|⟨rfl,k6,k7,rfl⟩|⟨rfl,k6,k7,rfl⟩
  all_goals
   gi_wp2_with ((try refine⟨hdd _,?_⟩);refine hR.mono ?_;clear hR;rintro e W2 (⟨rfl,HJ2,HK2,HR2,d0,d6⟩|⟨rfl,HX2⟩))
   ·gi_loopw [29] (fun i wr=>∃(k:Nat) (ys:List By),k≤r.n∧i= .int .i64 k∧Hid (ys.map By.key=B3 f k∧J (pre++x::ys) wr∧Kp B W0.heap.size W wr∧A6 wr W.heap.size r (.slice a r.n c))) (fun i wr=>r.n-(intOf i).toNat)
    case atStart=>exact⟨0,[],by omega,rfl,Hd ⟨rfl,HJ2.out,HK2.out,HR2.out⟩⟩
    case round=>
     obtain⟨k,ys,hk,rfl,HQ⟩:=hrel
     by_cases hlt:k<r.n
     ·have hki:(k:Int)<(r.n:Int):=by omega
      obtain⟨q1,q2,q3,q4⟩:=HQ.out
      obtain⟨b,o,ha,⟨e0,e1,e2,e3,e4,e5,e6,e7⟩⟩:=HA.out wr (HW.out.1.trans q3.bl) k hlt
      subst ha
      obtain⟨a',c',hS'⟩:=HSf.out k hlt
      have hbn:Below wr.heap.size wr (wr.alloc (AT (r.args k) (S k))):=AL _ _
      have hwr:W.heap.size≤wr.heap.size:=q3.kc.size
      have hkn:Kp B W0.heap.size wr (wr.alloc (AT (r.args k) (S k))):=Kp.of_below (by have:=HW.out.2.1;omega) hbn
      have hM0:=HI.out k hlt (n-1) (pre++x::ys) (wr.alloc (AT (r.args k) (S k))) (HW.out.1.trans (q3.bl.trans hkn.bl)) (by have:=HW.out.2.1;have:=hbn.size;omega) (by have:=HW.out.2.2.1;have:=hbn.size;omega) (hkn.kc.blk hBt (q3.kc.blk hBt HcB.out rfl) rfl) (hJ _ _ _ q2) (by
       have h1:=HC.out k ys hlt q1
       have h2:=HW.out.2.2.2
       simp only[List.length_append,List.length_cons]
       omega)
      have HM:=Hd (hM0.mono (R':=fun e w4=>(e= .returned (.bool true)∧Hid (∃zs:List By,zs.map By.key=f k∧J (pre++x::ys++zs) w4)∧Hid (Kp B W0.heap.size W w4∧A6 w4 W.heap.size r (.slice (some ⟨b,o,none⟩) r.n c)))∨(e= .returned (.bool false)∧Hid (∃zs:List By,zs.map By.key<+:f k∧Jx (pre++x::ys++zs) w4)))
       (fun e w4 h=>h.elim (fun⟨he,hz,hk4⟩=> .inl ⟨he,Hd (by rw[HF.out];exact hz),Hd ⟨q3.t (hkn.t hk4),(q4.kc hkn.kc (by have:=HW.out.2.2.1;omega)).kc hk4.kc (by have:=HW.out.2.2.1;omega)⟩⟩) (fun⟨he,hz⟩=> .inr ⟨he,Hd (by rw[HF.out];exact hz)⟩)))
      have hself:wr.cell? ⟨Bt,0,none⟩=some (.func (.func 163) #[] #[.pointer (some ⟨Bt,0,none⟩)]):=(q3.kc.blk hBt HcB.out rfl).cell 0
      have hbtl:Bt<wr.heap.size:=FY hself
      have hbtn:Bt≠wr.heap.size:=by omega
      have hself2:(wr.alloc (AT (r.args k) (.slice a' (r.args k).n c'))).cell? ⟨Bt,0,none⟩=some (.func (.func 163) #[] #[.pointer (some ⟨Bt,0,none⟩)]):=by
       rw[←hS'];exact(hkn.kc.blk hBt (q3.kc.blk hBt HcB.out rfl) rfl).cell 0
      simp only[hS']at HM e6
      clear q1 q2 q3 q4 hM0 hbn hkn
      gi_wp2_with ((try refine⟨trivial,?_⟩);(try refine⟨hdd _,?_⟩);gi_at_call 163;refine HM.out.mono ?_;clear HM;rintro e w4 (⟨rfl,HZ,HK4⟩|⟨rfl,HX4⟩))
      ·go_roundw
       case rel=>
        obtain⟨zs,hz1,hz2⟩:=HZ.out
        exact⟨k+1,ys++zs,by omega,by go_num,Hd ⟨by rw[List.map_append,HQ.out.1,hz1];rfl,by simpa using hz2,HK4.out.1,HK4.out.2⟩⟩
       case measure=>simp[intOf];omega
      ·go_ret
       obtain⟨zs,hz1,hz2⟩:=HX4.out
       refine .inr ⟨rfl,x::ys++zs,?_,by simpa using hz2⟩
       rw[HP.out,List.map_append,List.map_cons,HxK.out,HQ.out.1,List.cons_append]
       exact(List.prefix_cons_inj _).2 (PT hlt hz1)
     ·obtain rfl:k=r.n:=by omega
      gi_wp2
      go_ret
      exact .inl ⟨rfl,⟨x::ys,by rw[HP.out,List.map_cons,HxK.out,HQ.out.1],HQ.out.2.1⟩,HQ.out.2.2.1⟩
   ·go_ret
    exact .inr ⟨rfl,[x],by rw[HP.out];simp[HxK.out],HX2.out⟩
attribute [local go_sem] Oper.semAt_some
theorem Ms (W0:World) (l Bt Bb B n:Nat) (hB0:W0.heap.size≤B) (hBt:Bt≠B) (J Jx:List By→World→Prop)
 (hJ:∀ys W o,J ys W→J ys (W.alloc o)) (r:Ac) (s:Value) (hs:Au W0 r s)
 (hY:∀m pre x W,J pre W→pre.length<r.count→YieldAt Fence.wide m Tryz.prog l (PB x) W fun e W'=>
   (e= .returned (.bool true)∧J (pre++ [x]) W'∧Kp B W0.heap.size W W')∨(e= .returned (.bool false)∧Jx (pre++ [x]) W'))
 (W:World) (hW:Below W0.heap.size W0 W) (hWs:W0.heap.size≤W.heap.size) (hBW:B<W.heap.size) (hcB:Blk W Bt 191 #[Et Bt]) (hcb:A6 W Bb r s) (h0:J [] W):
 CallsIn Fence.wide n Tryz.prog 164 #[.func (.yield l) #[] #[],.pointer (some ⟨Bt,0,none⟩),.pointer (some ⟨Bb,0,none⟩)] W fun e W'=>(∃v,e= .returned v)∧
  ((∃ys:List By,ys.map By.key=r.parts false∧J ys W')∨(∃ys:List By,ys.map By.key<+:r.parts false∧Jx ys W')):=by
 have hdd:∀k:Nat,(Fence.wide.depth.isSome=true→1≤k):=fun k h=>by cases h
 have HT:=Hd (OR W0 l Bt B r.count hB0 hBt J Jx hJ hY r s hs (n-1) [] false W hW hWs hBW hcB h0 (by simp))
 obtain⟨d0,d1,d2,d3,d4,d5,d6,d7⟩:=hcb.at_
 have hself:W.cell? ⟨Bt,0,none⟩=some (.func (.func 163) #[] #[.pointer (some ⟨Bt,0,none⟩)]):=hcB.cell 0
 clear hY hs hJ h0 hcB
 refine callsIn_of_wp Tryz.func164 rfl trivial ?_ rfl
 simp only[Tryz.ntmps164,List.size_toArray,List.length_cons,List.length_nil,Nat.reduceAdd,Nat.reduceSub,Array.replicate_succ,Array.replicate_zero,List.push_toArray,List.append_toArray,List.nil_append,List.cons_append]
 gi_wp2_with ((try refine⟨trivial,?_⟩);(try refine⟨hdd _,?_⟩);gi_at_call 163;refine HT.out.mono ?_;clear HT;rintro e W1 (⟨rfl,HZ,_⟩|⟨rfl,HX⟩))
 ·go_end0
  obtain⟨ys,h1,h2⟩:=HZ
  exact⟨⟨_,rfl⟩,.inl ⟨ys,h1,h2⟩⟩
 ·go_end0
  obtain⟨ys,h1,h2⟩:=HX
  exact⟨⟨_,rfl⟩,.inr ⟨ys,h1,h2⟩⟩
theorem Hs (r:Ac) (s:Value) (w:World):Calls Tryz.prog 128 #[r.val s] w fun e w'=>e= .returned (.func (.func 164) #[] #[.pointer (some ⟨w.heap.size+1,0,none⟩),.pointer (some ⟨w.heap.size,0,none⟩)])∧w'=(w.alloc (AT r s)).alloc (.cells #[Et (w.heap.size+1)] 191):=by
 have hsf:=fun(a:Addr) (c:Array Value) (w:World)=>run_store Tryz.prog w a (.func (.func 163) #[] c) .plain rfl
 unfold Ac.val Be
 go_enter Tryz.func128,Tryz.ntmps128
 go_wp2_with fail
 go_ret
 exact⟨rfl,rfl⟩
theorem Fz (W0 w1:World) (Bt Bb B n:Nat) (hB0:W0.heap.size≤B) (hBt:Bt≠B) (r:Ac) (s:Value) (hs:Au W0 r s)
 (hW:Below W0.heap.size W0 w1) (hWs:W0.heap.size≤w1.heap.size) (hBW:B<w1.heap.size) (hcB:Blk w1 Bt 191 #[Et Bt]) (hcb:A6 w1 Bb r s):
 SeqStopsK Fence.wide n Tryz.prog 164 #[.pointer (some ⟨Bt,0,none⟩),.pointer (some ⟨Bb,0,none⟩)] PB (Kp B W0.heap.size) (fun ys=>ys.map By.key=r.parts false) (fun ys=>ys.map By.key<+:r.parts false) r.count w1:=fun l J Jx W hb hJ hJx hY h0=>
 Ms W0 l Bt Bb B n hB0 hBt J Jx (fun ys A o h=>hJ ys A (A.alloc o) none h (World.grownBy_alloc A o none) (fun r e=>by cases e)) r s hs
  (fun m pre x A h1 h2=>G4 rfl m (hY pre x A h1 h2)) W (hW.trans (hb.mono hWs)) (Nat.le_trans hWs hb.size) (Nat.lt_of_lt_of_le hBW hb.size)
  (hcB.below hb hcB.lt) (hcb.below hb) h0
attribute [local go_sem] Oper.semAt_some
theorem DY {A B:World} {row:Option Nat} {g:Nat} {t:TypeId} {cs:Array Value} {n0:Nat} (h:Blk A g t cs) (hg:A.grownBy B row) (hr:∀r,row=some r→n0≤r∧∃o:Obj,A.heap[r]?=some o∧o.isCells=false):Blk B g t cs:=
 h.grown hg fun e=>by
  obtain⟨_,o,ho,hc⟩:=hr g e.symm
  unfold Blk at h
  rw[h]at ho
  injection ho with ho
  rw[←ho]at hc
  simp[Obj.isCells]at hc
theorem Kp.set {B n0:Nat} (hB:n0≤B) (W:World) (i:Nat) (u:Value):Kp B n0 W (W.setCell ⟨B,i,none⟩ u):=by
 refine⟨⟨by simp,fun k o hk ho _ _=>(Below.heap_setCell W ⟨B,i,none⟩ u k hk).trans ho⟩,(Below.refl n0 W).setCell (p:=⟨B,i,none⟩) hB u⟩
theorem KC.keeps {W W':World} (h:Below W.heap.size W W') (n:Nat):KeepsFrom n W W':=⟨h.size,fun k _ _ hk _=>(h.block k (Array.getElem?_eq_some_iff.1 hk).1).trans hk⟩
theorem M1 (W0:World) (r:Ac) (s:Value) (hs0:Au W0 r s) (w:World) (hB:Below W0.heap.size W0 w) (hc:r.count≤4611686018427387904):Calls Tryz.prog 126 #[r.val s] w fun e w'=>e= .returned (.int .i64 r.count)∧Below w.heap.size w w':=by
 have hs:=hs0.kept hB
 obtain⟨a,c,rfl⟩:=hs.form
 obtain⟨w2,hw2⟩:∃w2,w2=(w.alloc (AT r (.slice a r.n c))).alloc (.cells #[.int .i64 0] 3):=⟨_,rfl⟩
 obtain⟨w4,hw4⟩:∃w4,w4=(w2.alloc (AT r (.slice a r.n c))).alloc (.cells #[Et (w2.heap.size+1)] 191):=⟨_,rfl⟩
 have HP:=Hd (Hs r (.slice a r.n c) w2)
 rw[←hw4]at HP
 have hz2:w2.heap.size=w.heap.size+2:=by rw[hw2];simp
 have hz4:w4.heap.size=w.heap.size+4:=by rw[hw4];simp[hz2]
 have hb2:Below w.heap.size w w2:=by rw[hw2];exact((Below.refl _ w).alloc (Nat.le_refl _) _).alloc (by simp) _
 have hb24:Below w2.heap.size w2 w4:=by rw[hw4];exact((Below.refl _ w2).alloc (Nat.le_refl _) _).alloc (by simp) _
 have hk2:Blk w2 (w.heap.size+1) 3 #[.int .i64 0]:=by rw[hw2];have:=Blk.new (w.alloc (AT r (.slice a r.n c))) 3 #[.int .i64 0];rwa [World.size_alloc]at this
 have hk4:Blk w4 (w.heap.size+1) 3 #[.int .i64 0]:=hk2.below hb24 (by omega)
 have hself:Blk w4 (w.heap.size+3) 191 #[Et (w.heap.size+3)]:=by
  rw[hw4,hz2]
  have:=Blk.new (w2.alloc (AT r (.slice a r.n c))) 191 #[Et (w.heap.size+2+1)]
  rw[World.size_alloc,hz2]at this
  exact this
 have hrb:A6 w4 (w.heap.size+2) r (.slice a r.n c):=by
  have h:=A6.new w2 r (.slice a r.n c)
  rw[hz2]at h
  rw[hw4]
  exact h.below (AL _ _)
 have hst:=Fz w w4 (w.heap.size+3) (w.heap.size+2) (w.heap.size+1) 4 (by omega) (by omega) r _ hs (hb2.trans (hb24.mono (by omega))) (by omega) (by omega) hself hrb
 have HST:=Hd hst
 have HB4:=Hd (hb2.trans (hb24.mono (by omega)))
 have HK4:=Hd hk4
 clear hst hself hrb hk4 hk2 hb2 hb24 hs hs0 hB hw4
 refine(callsIn_wide (n:=5)).1 ?_
 refine callsIn_of_wp_marks Tryz.func126 rfl trivial ?_ rfl
 simp only[Tryz.ntmps126,List.size_toArray,List.length_cons,List.length_nil,Nat.reduceAdd,Nat.reduceSub,Array.replicate_succ,Array.replicate_zero,List.push_toArray,List.append_toArray,List.nil_append,List.cons_append]
 unfold Ac.val Be
 subst hw2
 gi_wp2_with ((try refine⟨trivial,?_⟩);gi_at_call 128;refine(callsIn_wide.2 HP.out).mono ?_;rintro e w1 ⟨rfl,rfl⟩)
 refine wpIn_rangeFunc_ownG (F:=Fence.wide) (n:=5) rfl (by omega) (gf:=164) (lb:= #[.pointer (some ⟨w.heap.size+3,0,none⟩),.pointer (some ⟨w.heap.size+2,0,none⟩)]) rfl trivial (enters_of Tryz.func164 (by kernel_rfl) rfl) HST.out Kp.t (Kp.b (by omega)) (Below.refl _ _) (fun _=>rfl)
  (fun pre W=>Blk W (w.heap.size+1) 3 #[.int .i64 (pre.length:Int)]∧Below w.heap.size w W) (fun _ _ _=>False)
  (OwnFrom.and (fun s A B row hs hg hr=>DY hs hg hr) (ownFrom_below (Nat.le_refl _) (by omega)))
  (fun _ _ _ _ _ hs _ _=>hs) ⟨HK4.out,HB4.out⟩ ?a1 ?assign ?body ?done ?stop
 case assign=>
  intro l x W K hK
  gi_wp2
  exact hK
 case body=>
  rintro l pre x W ⟨hbk,hbl⟩ hlen
  have hc0:W.cell? ⟨w.heap.size+1,0,none⟩=some (.int .i64 (pre.length:Int)):=hbk.cell 0
  have hf0:W.frozen? ⟨w.heap.size+1,0,none⟩=false:=hbk.frozen 0
  have hle:(pre.length:Int)+1≤4611686018427387904:=by omega
  have HBk:=Hd hbk
  have HBl:=Hd hbl
  clear hbk hbl hlen
  gi_wp2
  refine⟨(KeepsOthers.setCell _ _ _).from _,Kp.set (by omega) _ _ _,?_,HBl.out.trans (Kp.set (n0:=w.heap.size) (B:=w.heap.size+1) (by omega) W 0 _).bl⟩
  have h:=HBk.out.set_ 0 (.int .i64 ((pre++ [x]).length:Int))
  simpa using h
 case done=>
  rintro D ys W hD hS ⟨hbk,hbl⟩ hKD
  have hl:ys.length=r.count:=by rw[←E6 r false,←hS,List.length_map]
  rw[hl]at hbk
  have hc0:W.cell? ⟨w.heap.size+1,0,none⟩=some (.int .i64 (r.count:Int)):=hbk.cell 0
  have HD:=Hd (hbl.trans (belowK_b (w:=w) (Nat.le_refl _) W D _ (.deferred none) (by omega) hKD rfl rfl))
  have HKD:=Hd hKD
  clear hbk hbl hS hKD
  gi_wp2
  refine⟨by simp,.inl ⟨_,_,rfl,run_takeDeferred HKD.out,?_⟩⟩
  exact⟨_,results_tmp rfl _ _ _,rfl,HD.out⟩
 case stop=>
  rintro D c pre W _ _ h _
  exact h.elim
end Go.Proofs.YtdpjjnbelgaagaaGreatDoor
