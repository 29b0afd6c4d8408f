/- slices.IndexFunc and ContainsFunc at each kind of elements, and each function that is handed in. Conditions: as each theorem names them. -/
import Derived.Test.YtdpjjnbelgaagaaGreatDoorG05
import Derived.Test.YtdpjjnbelgaagaaGreatDoorG04
import Derived.Deep.Cut
namespace Go.Proofs.YtdpjjnbelgaagaaGreatDoor
set_option maxHeartbeats 32000000
open Go.ChangeShapes Go.WideShapes Go.ChangeAt Go.RowKit
set_option maxRecDepth 100000
def Im (b:Bool) (n:Nat) (w:World) (e:Ending) (w':World):Prop:=∃i:Int,e= .returned (.int .i64 i)∧decide (0≤i)=b∧ -1≤i∧i≤n∧Below w.heap.size w w'
theorem JL (W0:World) (l:List Ax) (vl:Value) (hl:LIn AW Ai W0 l vl) (bc:Nat) (P:Ax→Bool) (w:World) (hB:Below W0.heap.size W0 w)
 (one:∀x∈l,∀(r:AW.R) (w':World),AW.holds Ai W0 x r→Below w.heap.size w w'→Calls Tryz.prog 119 #[x.val,.pointer (some ⟨bc,0,none⟩)] w' fun e w''=>e= .returned (.bool (P x))∧Below w'.heap.size w' w''):
 Calls Tryz.prog 159 #[vl,.func (.func 119) #[] #[.pointer (some ⟨bc,0,none⟩)]] w (Im (l.any P) l.length w):=by
 obtain⟨a,c,rfl⟩:=hl.form
 have hn:=hl.bound
 have HL:=Hd hl
 have HO:=Hd one
 have HBW:=Hd hB
 have HB0:=Hd (Below.refl w.heap.size w)
 obtain⟨T,hT⟩:∃T,T=l.any P:=⟨_,rfl⟩
 rw[←hT]
 have HT:=Hd hT
 clear hl one hB hT
 go_enter Tryz.func159,Tryz.ntmps159
 go_wp2_with fail
 go_loopw [5,8] (fun y i wr=>∃k:Nat,k≤l.length∧i= .int .i64 k∧Hid ((l.take k).any P=false∧Below w.heap.size w wr)) (fun y i wr=>l.length-(intOf i).toNat)
 case atStart=>exact⟨0,by omega,rfl,Hd ⟨rfl,HB0.out⟩⟩
 case round=>
  obtain⟨k,hk,rfl,HQ⟩:=hrel
  by_cases hlt:k<l.length
  ·have hki:(k:Int)<(l.length:Int):=by omega
   obtain⟨b,o,r,ha,_,hcs0,hh⟩:=HL.out.at_ k hlt
   obtain⟨x,hx⟩:∃x,x=l[k]:=⟨_,rfl⟩
   have HX:=Hd (show l.take (k+1)=l.take k++ [x]from by rw[hx];exact List.take_succ_eq_append_getElem hlt)
   have hmem:x∈l:=by rw[hx];exact List.getElem_mem _
   have HMem:=Hd hmem
   rw[←hx]at hcs0 hh
   subst ha
   dsimp only[AW]at hcs0 r
   have hcs:=hcs0.same ((HBW.out.trans (HQ.out.2.mono HBW.out.size)).block b hcs0.1) (HBW.out.trans (HQ.out.2.mono HBW.out.size)).size
   have e0:wr.cell? ⟨b,o+k*5,none⟩=some (.string x.name):=hcs.2 0 (show 0<5 by omega)
   have e1:wr.cell? ⟨b,o+k*5+1,none⟩=some (.int .u8 x.op):=hcs.2 1 (show 1<5 by omega)
   have e2:wr.cell? ⟨b,o+k*5+2,none⟩=some (.int .i64 x.ep):=hcs.2 2 (show 2<5 by omega)
   have e3:wr.cell? ⟨b,o+k*5+3,none⟩=some (.string x.ver):=hcs.2 3 (show 3<5 by omega)
   have e4:wr.cell? ⟨b,o+k*5+4,none⟩=some (.string x.rel):=hcs.2 4 (show 4<5 by omega)
   have eb:b<wr.heap.size:=hcs.1
   have HM:=Hd (HO.out x hmem _ wr hh HQ.out.2)
   obtain⟨pb,hpb⟩:∃pb,pb=P x:=⟨_,rfl⟩
   rw[←hpb]at HM
   have HPb:=Hd hpb
   clear hcs hcs0 hh hx hmem hpb
   cases pb with
   |true=>
    have HT2:=Hd (show T=true from HT.out.trans (List.any_eq_true.2 ⟨x,HMem.out,HPb.out.symm⟩))
    go_wp2_with (first
     |(go_at_call 119;(with_reducible refine HM.out.mono ?_);rintro e w2 ⟨rfl,HBc⟩;have HB2:=Hd (HQ.out.2.trans (HBc.mono HQ.out.2.size));clear HBc)
     |fail)
    go_ret
    exact⟨(k:Int),rfl,by rw[HT2.out];exact decide_eq_true (by omega),by omega,by omega,HB2.out⟩
   |false=>
    go_wp2_with (first
     |(go_at_call 119;(with_reducible refine HM.out.mono ?_);rintro e w2 ⟨rfl,HBc⟩;have HB2:=Hd (HQ.out.2.trans (HBc.mono HQ.out.2.size));clear HBc)
     |fail)
    go_roundw
    case rel=>exact⟨k+1,by omega,by go_num,Hd ⟨by rw[HX.out,List.any_append,HQ.out.1];simp[←HPb.out],HB2.out⟩⟩
    case measure=>simp[intOf];omega
  ·obtain rfl:k=l.length:=by omega
   have HT2:=Hd (show T=false from by have:=HQ.out.1;rw[List.take_length]at this;exact HT.out.trans this)
   go_wp2_with fail
   go_ret
   exact⟨-1,rfl,by rw[HT2.out];rfl,by omega,by omega,HQ.out.2⟩
theorem J9 (W0:World) (l:List Ax) (vl:Value) (hl:LIn AW Ai W0 l vl) (bc:Nat) (P:Ax→Bool) (w:World) (hB:Below W0.heap.size W0 w)
 (one:∀x∈l,∀(r:AW.R) (w':World),AW.holds Ai W0 x r→Below w.heap.size w w'→Calls Tryz.prog 119 #[x.val,.pointer (some ⟨bc,0,none⟩)] w' fun e w''=>e= .returned (.bool (P x))∧Below w'.heap.size w' w''):
 Calls Tryz.prog 118 #[vl,.func (.func 119) #[] #[.pointer (some ⟨bc,0,none⟩)]] w fun e w'=>e= .returned (.bool (l.any P))∧Below w.heap.size w w':=by
 have HI:=Hd (JL W0 l vl hl bc P w hB one)
 obtain⟨T,hT⟩:∃T,T=l.any P:=⟨_,rfl⟩
 rw[←hT]at HI ⊢
 clear hl one hB hT
 go_enter Tryz.func118,Tryz.ntmps118
 go_wp2_with (first
  |(go_at_call 159;(with_reducible refine HI.out.mono ?_);rintro e w1 ⟨i,rfl,hi,h1,h2,HBc⟩;have HI2:=Hd hi;clear hi)
  |fail)
 go_ret
 exact⟨Af HI2.out,HBc⟩
theorem JG (W0:World) (l:List ByteArray) (vl:Value) (hl:LIn A2 Ai W0 l vl) (bc:Nat) (P:ByteArray→Bool) (w:World) (hB:Below W0.heap.size W0 w)
 (one:∀x∈l,∀(r:A2.R) (w':World),A2.holds Ai W0 x r→Below w.heap.size w w'→Calls Tryz.prog 122 #[.string x,.pointer (some ⟨bc,0,none⟩)] w' fun e w''=>e= .returned (.bool (P x))∧Below w'.heap.size w' w''):
 Calls Tryz.prog 161 #[vl,.func (.func 122) #[] #[.pointer (some ⟨bc,0,none⟩)]] w (Im (l.any P) l.length w):=by
 obtain⟨a,c,rfl⟩:=hl.form
 have hn:=hl.bound
 have HL:=Hd hl
 have HO:=Hd one
 have HBW:=Hd hB
 have HB0:=Hd (Below.refl w.heap.size w)
 obtain⟨T,hT⟩:∃T,T=l.any P:=⟨_,rfl⟩
 rw[←hT]
 have HT:=Hd hT
 clear hl one hB hT
 go_enter Tryz.func161,Tryz.ntmps161
 go_wp2_with fail
 go_loopw [5,8] (fun y i wr=>∃k:Nat,k≤l.length∧i= .int .i64 k∧Hid ((l.take k).any P=false∧Below w.heap.size w wr)) (fun y i wr=>l.length-(intOf i).toNat)
 case atStart=>exact⟨0,by omega,rfl,Hd ⟨rfl,HB0.out⟩⟩
 case round=>
  obtain⟨k,hk,rfl,HQ⟩:=hrel
  by_cases hlt:k<l.length
  ·have hki:(k:Int)<(l.length:Int):=by omega
   obtain⟨b,o,r,ha,_,hcs0,hh⟩:=HL.out.at_ k hlt
   obtain⟨x,hx⟩:∃x,x=l[k]:=⟨_,rfl⟩
   have HX:=Hd (show l.take (k+1)=l.take k++ [x]from by rw[hx];exact List.take_succ_eq_append_getElem hlt)
   have hmem:x∈l:=by rw[hx];exact List.getElem_mem _
   have HMem:=Hd hmem
   rw[←hx]at hcs0 hh
   subst ha
   dsimp only[A2]at hcs0 r
   rw[Nat.mul_one]at hcs0
   have hcs:=hcs0.same ((HBW.out.trans (HQ.out.2.mono HBW.out.size)).block b hcs0.1) (HBW.out.trans (HQ.out.2.mono HBW.out.size)).size
   have e0:wr.cell? ⟨b,o+k,none⟩=some (.string x):=hcs.2 0 (show 0<1 by omega)
   have eb:b<wr.heap.size:=hcs.1
   have HM:=Hd (HO.out x hmem _ wr hh HQ.out.2)
   obtain⟨pb,hpb⟩:∃pb,pb=P x:=⟨_,rfl⟩
   rw[←hpb]at HM
   have HPb:=Hd hpb
   clear hcs hcs0 hh hx hmem hpb
   cases pb with
   |true=>
    have HT2:=Hd (show T=true from HT.out.trans (List.any_eq_true.2 ⟨x,HMem.out,HPb.out.symm⟩))
    go_wp2_with (first
     |(go_at_call 122;(with_reducible refine HM.out.mono ?_);rintro e w2 ⟨rfl,HBc⟩;have HB2:=Hd (HQ.out.2.trans (HBc.mono HQ.out.2.size));clear HBc)
     |fail)
    go_ret
    exact⟨(k:Int),rfl,by rw[HT2.out];exact decide_eq_true (by omega),by omega,by omega,HB2.out⟩
   |false=>
    go_wp2_with (first
     |(go_at_call 122;(with_reducible refine HM.out.mono ?_);rintro e w2 ⟨rfl,HBc⟩;have HB2:=Hd (HQ.out.2.trans (HBc.mono HQ.out.2.size));clear HBc)
     |fail)
    go_roundw
    case rel=>exact⟨k+1,by omega,by go_num,Hd ⟨by rw[HX.out,List.any_append,HQ.out.1];simp[←HPb.out],HB2.out⟩⟩
    case measure=>simp[intOf];omega
  ·obtain rfl:k=l.length:=by omega
   have HT2:=Hd (show T=false from by have:=HQ.out.1;rw[List.take_length]at this;exact HT.out.trans this)
   go_wp2_with fail
   go_ret
   exact⟨-1,rfl,by rw[HT2.out];rfl,by omega,by omega,HQ.out.2⟩
theorem J4 (W0:World) (l:List ByteArray) (vl:Value) (hl:LIn A2 Ai W0 l vl) (bc:Nat) (P:ByteArray→Bool) (w:World) (hB:Below W0.heap.size W0 w)
 (one:∀x∈l,∀(r:A2.R) (w':World),A2.holds Ai W0 x r→Below w.heap.size w w'→Calls Tryz.prog 122 #[.string x,.pointer (some ⟨bc,0,none⟩)] w' fun e w''=>e= .returned (.bool (P x))∧Below w'.heap.size w' w''):
 Calls Tryz.prog 121 #[vl,.func (.func 122) #[] #[.pointer (some ⟨bc,0,none⟩)]] w fun e w'=>e= .returned (.bool (l.any P))∧Below w.heap.size w w':=by
 have HI:=Hd (JG W0 l vl hl bc P w hB one)
 obtain⟨T,hT⟩:∃T,T=l.any P:=⟨_,rfl⟩
 rw[←hT]at HI ⊢
 clear hl one hB hT
 go_enter Tryz.func121,Tryz.ntmps121
 go_wp2_with (first
  |(go_at_call 161;(with_reducible refine HI.out.mono ?_);rintro e w1 ⟨i,rfl,hi,h1,h2,HBc⟩;have HI2:=Hd hi;clear hi)
  |fail)
 go_ret
 exact⟨Af HI2.out,HBc⟩
theorem JH (W0:World) (l:List Ac) (vl:Value) (hl:LIn Aj Ai W0 l vl) (bc:Nat) (P:Ac→Bool) (w:World) (hB:Below W0.heap.size W0 w)
 (one:∀x∈l,∀(r:Aj.R) (w':World),Aj.holds Ai W0 x r→Below w.heap.size w w'→Calls Tryz.prog 125 #[x.val r,.pointer (some ⟨bc,0,none⟩)] w' fun e w''=>e= .returned (.bool (P x))∧Below w'.heap.size w' w''):
 Calls Tryz.prog 162 #[vl,.func (.func 125) #[] #[.pointer (some ⟨bc,0,none⟩)]] w (Im (l.any P) l.length w):=by
 obtain⟨a,c,rfl⟩:=hl.form
 have hn:=hl.bound
 have HL:=Hd hl
 have HO:=Hd one
 have HBW:=Hd hB
 have HB0:=Hd (Below.refl w.heap.size w)
 obtain⟨T,hT⟩:∃T,T=l.any P:=⟨_,rfl⟩
 rw[←hT]
 have HT:=Hd hT
 clear hl one hB hT
 go_enter Tryz.func162,Tryz.ntmps162
 go_wp2_with fail
 go_loopw [5,8] (fun y i wr=>∃k:Nat,k≤l.length∧i= .int .i64 k∧Hid ((l.take k).any P=false∧Below w.heap.size w wr)) (fun y i wr=>l.length-(intOf i).toNat)
 case atStart=>exact⟨0,by omega,rfl,Hd ⟨rfl,HB0.out⟩⟩
 case round=>
  obtain⟨k,hk,rfl,HQ⟩:=hrel
  by_cases hlt:k<l.length
  ·have hki:(k:Int)<(l.length:Int):=by omega
   obtain⟨b,o,r,ha,_,hcs0,hh⟩:=HL.out.at_ k hlt
   obtain⟨x,hx⟩:∃x,x=l[k]:=⟨_,rfl⟩
   have HX:=Hd (show l.take (k+1)=l.take k++ [x]from by rw[hx];exact List.take_succ_eq_append_getElem hlt)
   have hmem:x∈l:=by rw[hx];exact List.getElem_mem _
   have HMem:=Hd hmem
   rw[←hx]at hcs0 hh
   subst ha
   dsimp only[Aj]at hcs0 r
   have hcs:=hcs0.same ((HBW.out.trans (HQ.out.2.mono HBW.out.size)).block b hcs0.1) (HBW.out.trans (HQ.out.2.mono HBW.out.size)).size
   have e0:wr.cell? ⟨b,o+k*7,none⟩=some (.int .u8 x.kind):=hcs.2 0 (show 0<7 by omega)
   have e1:wr.cell? ⟨b,o+k*7+1,none⟩=some (.string x.dep.name):=hcs.2 1 (show 1<7 by omega)
   have e2:wr.cell? ⟨b,o+k*7+2,none⟩=some (.int .u8 x.dep.op):=hcs.2 2 (show 2<7 by omega)
   have e3:wr.cell? ⟨b,o+k*7+3,none⟩=some (.int .i64 x.dep.ep):=hcs.2 3 (show 3<7 by omega)
   have e4:wr.cell? ⟨b,o+k*7+4,none⟩=some (.string x.dep.ver):=hcs.2 4 (show 4<7 by omega)
   have e5:wr.cell? ⟨b,o+k*7+5,none⟩=some (.string x.dep.rel):=hcs.2 5 (show 5<7 by omega)
   have e6:wr.cell? ⟨b,o+k*7+6,none⟩=some (r):=hcs.2 6 (show 6<7 by omega)
   have eb:b<wr.heap.size:=hcs.1
   have HM:=Hd (HO.out x hmem _ wr hh HQ.out.2)
   obtain⟨pb,hpb⟩:∃pb,pb=P x:=⟨_,rfl⟩
   rw[←hpb]at HM
   have HPb:=Hd hpb
   clear hcs hcs0 hh hx hmem hpb
   cases pb with
   |true=>
    have HT2:=Hd (show T=true from HT.out.trans (List.any_eq_true.2 ⟨x,HMem.out,HPb.out.symm⟩))
    go_wp2_with (first
     |(go_at_call 125;(with_reducible refine HM.out.mono ?_);rintro e w2 ⟨rfl,HBc⟩;have HB2:=Hd (HQ.out.2.trans (HBc.mono HQ.out.2.size));clear HBc)
     |fail)
    go_ret
    exact⟨(k:Int),rfl,by rw[HT2.out];exact decide_eq_true (by omega),by omega,by omega,HB2.out⟩
   |false=>
    go_wp2_with (first
     |(go_at_call 125;(with_reducible refine HM.out.mono ?_);rintro e w2 ⟨rfl,HBc⟩;have HB2:=Hd (HQ.out.2.trans (HBc.mono HQ.out.2.size));clear HBc)
     |fail)
    go_roundw
    case rel=>exact⟨k+1,by omega,by go_num,Hd ⟨by rw[HX.out,List.any_append,HQ.out.1];simp[←HPb.out],HB2.out⟩⟩
    case measure=>simp[intOf];omega
  ·obtain rfl:k=l.length:=by omega
   have HT2:=Hd (show T=false from by have:=HQ.out.1;rw[List.take_length]at this;exact HT.out.trans this)
   go_wp2_with fail
   go_ret
   exact⟨-1,rfl,by rw[HT2.out];rfl,by omega,by omega,HQ.out.2⟩
theorem J5 (W0:World) (l:List Ac) (vl:Value) (hl:LIn Aj Ai W0 l vl) (bc:Nat) (P:Ac→Bool) (w:World) (hB:Below W0.heap.size W0 w)
 (one:∀x∈l,∀(r:Aj.R) (w':World),Aj.holds Ai W0 x r→Below w.heap.size w w'→Calls Tryz.prog 125 #[x.val r,.pointer (some ⟨bc,0,none⟩)] w' fun e w''=>e= .returned (.bool (P x))∧Below w'.heap.size w' w''):
 Calls Tryz.prog 124 #[vl,.func (.func 125) #[] #[.pointer (some ⟨bc,0,none⟩)]] w fun e w'=>e= .returned (.bool (l.any P))∧Below w.heap.size w w':=by
 have HI:=Hd (JH W0 l vl hl bc P w hB one)
 obtain⟨T,hT⟩:∃T,T=l.any P:=⟨_,rfl⟩
 rw[←hT]at HI ⊢
 clear hl one hB hT
 go_enter Tryz.func124,Tryz.ntmps124
 go_wp2_with (first
  |(go_at_call 162;(with_reducible refine HI.out.mono ?_);rintro e w1 ⟨i,rfl,hi,h1,h2,HBc⟩;have HI2:=Hd hi;clear hi)
  |fail)
 go_ret
 exact⟨Af HI2.out,HBc⟩
theorem Rf (x:Ax) (bc:Nat) (q:Bool) (w:World) (hc:Blk w bc 122 #[.func (.func 74) #[] #[]])
 (one:∀w',Below w.heap.size w w'→Calls Tryz.prog 74 #[x.val] w' fun e w''=>e= .returned (.bool q)∧Below w'.heap.size w' w''):
 Calls Tryz.prog 119 #[x.val,.pointer (some ⟨bc,0,none⟩)] w fun e w'=>e= .returned (.bool (!q))∧Below w.heap.size w w':=by
 have c0:w.cell? ⟨bc,0,none⟩=some (.func (.func 74) #[] #[]):=hc.cell 0
 have cl:bc<w.heap.size:=hc.lt
 have HB:=Hd (show∀o,Below w.heap.size w (w.alloc o)from fun o=>Ag w o)
 have HO:=Hd one
 clear hc one
 go_enter Tryz.func119,Tryz.ntmps119
 go_wp2_with (first
  |(go_at_call 74;(with_reducible refine(HO.out _ (Ag _ _)).mono ?_);rintro e w1 ⟨rfl,HBc⟩;have HB2:=Hd (Aa (Ag _ _) HBc);clear HBc)
  |fail)
 go_ret
 exact⟨rfl,HB2.out⟩
theorem KM (W0:World) (l:List Ax) (vl:Value) (hl:LIn AW Ai W0 l vl) (Q:Ax→Bool) (w:World) (hB:Below W0.heap.size W0 w)
 (one:∀x∈l,∀(r:AW.R) (w':World),AW.holds Ai W0 x r→Below w.heap.size w w'→Calls Tryz.prog 74 #[x.val] w' fun e w''=>e= .returned (.bool (Q x))∧Below w'.heap.size w' w''):
 Calls Tryz.prog 73 #[vl,.int .i64 32,.func (.func 74) #[] #[]] w fun e w'=>e= .returned (.bool (decide (l.length≤32) && l.all Q))∧Below w.heap.size w w':=by
 obtain⟨a,c,hv⟩:=hl.form
 have hn:=hl.bound
 obtain⟨bc,hbc⟩:∃bc,bc=w.heap.size:=⟨_,rfl⟩
 obtain⟨w1,hw1⟩:∃w1,w1=w.alloc (.cells #[.func (.func 74) #[] #[]] 122):=⟨_,rfl⟩
 have hb1:Below w.heap.size w w1:=by rw[hw1];exact Ag _ _
 have hx:Blk w1 bc 122 #[.func (.func 74) #[] #[]]:=by rw[hw1,hbc];exact Blk.new _ _ _
 have HCF:=Hd (show Calls Tryz.prog 118 #[vl,.func (.func 119) #[] #[.pointer (some ⟨bc,0,none⟩)]] w1 fun e w'=>e= .returned (.bool (!(l.all Q)))∧Below w1.heap.size w1 w' from by
  have:=J9 W0 l vl hl bc (fun x=> !(Q x)) w1 (hB.trans (hb1.mono hB.size)) (fun x hx' r w' hh hw'=>Rf x bc (Q x) w' (hx.below hw' hx.lt) (fun w'' h2=>one x hx' r w'' hh (Aa hb1 (Aa hw' h2))))
  rw[show(l.any fun x=> !(Q x))= !(l.all Q)from by rw[List.not_all_eq_any_not]]at this
  exact this)
 have HB1:=Hd hb1
 clear hl one hB hx hb1
 subst hv
 by_cases hle:l.length≤32
 ·have h1:decide ((l.length:Int)≤32)=true:=by rw[decide_eq_true];omega
  have h2:(l.length:Int)≤32:=by omega
  rw[decide_eq_true hle,Bool.true_and]
  obtain⟨qa,hqa⟩:∃qa,qa=l.all Q:=⟨_,rfl⟩
  rw[←hqa]at HCF ⊢
  clear hqa hle
  go_enter Tryz.func73,Tryz.ntmps73
  go_upto_region 1 with fail
  rw[←hw1,←hbc]
  clear hw1 hbc
  go_wp2_with (first
   |(go_at_call 118;(with_reducible refine HCF.out.mono ?_);rintro e w2 ⟨rfl,HBc⟩;have HB2:=Hd (Aa HB1.out HBc);clear HBc)
   |fail)
  go_ret
  exact⟨by simp,HB2.out⟩
 ·have h1:decide ((l.length:Int)≤32)=false:=by rw[decide_eq_false];omega
  have h2:(32:Int)<(l.length:Int):=by omega
  rw[decide_eq_false hle,Bool.false_and]
  clear HCF hle
  go_enter Tryz.func73,Tryz.ntmps73
  go_upto_region 1 with fail
  rw[←hw1,←hbc]
  clear hw1 hbc
  go_wp2_with fail
  go_ret
  exact⟨rfl,HB1.out⟩
theorem Rc (x:ByteArray) (bc:Nat) (q:Bool) (w:World) (hc:Blk w bc 118 #[.func (.func 70) #[] #[]])
 (one:∀w',Below w.heap.size w w'→Calls Tryz.prog 70 #[.string x] w' fun e w''=>e= .returned (.bool q)∧Below w'.heap.size w' w''):
 Calls Tryz.prog 122 #[.string x,.pointer (some ⟨bc,0,none⟩)] w fun e w'=>e= .returned (.bool (!q))∧Below w.heap.size w w':=by
 have c0:w.cell? ⟨bc,0,none⟩=some (.func (.func 70) #[] #[]):=hc.cell 0
 have cl:bc<w.heap.size:=hc.lt
 have HB:=Hd (show∀o,Below w.heap.size w (w.alloc o)from fun o=>Ag w o)
 have HO:=Hd one
 clear hc one
 go_enter Tryz.func122,Tryz.ntmps122
 go_wp2_with (first
  |(go_at_call 70;(with_reducible refine(HO.out _ (Below.refl _ _)).mono ?_);rintro e w1 ⟨rfl,HBc⟩;have HB2:=Hd (Aa (Below.refl _ _) HBc);clear HBc)
  |fail)
 go_ret
 exact⟨rfl,HB2.out⟩
theorem KJ (W0:World) (l:List ByteArray) (vl:Value) (hl:LIn A2 Ai W0 l vl) (Q:ByteArray→Bool) (w:World) (hB:Below W0.heap.size W0 w)
 (one:∀x∈l,∀(r:A2.R) (w':World),A2.holds Ai W0 x r→Below w.heap.size w w'→Calls Tryz.prog 70 #[.string x] w' fun e w''=>e= .returned (.bool (Q x))∧Below w'.heap.size w' w''):
 Calls Tryz.prog 75 #[vl,.int .i64 32,.func (.func 70) #[] #[]] w fun e w'=>e= .returned (.bool (decide (l.length≤32) && l.all Q))∧Below w.heap.size w w':=by
 obtain⟨a,c,hv⟩:=hl.form
 have hn:=hl.bound
 obtain⟨bc,hbc⟩:∃bc,bc=w.heap.size:=⟨_,rfl⟩
 obtain⟨w1,hw1⟩:∃w1,w1=w.alloc (.cells #[.func (.func 70) #[] #[]] 118):=⟨_,rfl⟩
 have hb1:Below w.heap.size w w1:=by rw[hw1];exact Ag _ _
 have hx:Blk w1 bc 118 #[.func (.func 70) #[] #[]]:=by rw[hw1,hbc];exact Blk.new _ _ _
 have HCF:=Hd (show Calls Tryz.prog 121 #[vl,.func (.func 122) #[] #[.pointer (some ⟨bc,0,none⟩)]] w1 fun e w'=>e= .returned (.bool (!(l.all Q)))∧Below w1.heap.size w1 w' from by
  have:=J4 W0 l vl hl bc (fun x=> !(Q x)) w1 (hB.trans (hb1.mono hB.size)) (fun x hx' r w' hh hw'=>Rc x bc (Q x) w' (hx.below hw' hx.lt) (fun w'' h2=>one x hx' r w'' hh (Aa hb1 (Aa hw' h2))))
  rw[show(l.any fun x=> !(Q x))= !(l.all Q)from by rw[List.not_all_eq_any_not]]at this
  exact this)
 have HB1:=Hd hb1
 clear hl one hB hx hb1
 subst hv
 by_cases hle:l.length≤32
 ·have h1:decide ((l.length:Int)≤32)=true:=by rw[decide_eq_true];omega
  have h2:(l.length:Int)≤32:=by omega
  rw[decide_eq_true hle,Bool.true_and]
  obtain⟨qa,hqa⟩:∃qa,qa=l.all Q:=⟨_,rfl⟩
  rw[←hqa]at HCF ⊢
  clear hqa hle
  go_enter Tryz.func75,Tryz.ntmps75
  go_upto_region 1 with fail
  rw[←hw1,←hbc]
  clear hw1 hbc
  go_wp2_with (first
   |(go_at_call 121;(with_reducible refine HCF.out.mono ?_);rintro e w2 ⟨rfl,HBc⟩;have HB2:=Hd (Aa HB1.out HBc);clear HBc)
   |fail)
  go_ret
  exact⟨by simp,HB2.out⟩
 ·have h1:decide ((l.length:Int)≤32)=false:=by rw[decide_eq_false];omega
  have h2:(32:Int)<(l.length:Int):=by omega
  rw[decide_eq_false hle,Bool.false_and]
  clear HCF hle
  go_enter Tryz.func75,Tryz.ntmps75
  go_upto_region 1 with fail
  rw[←hw1,←hbc]
  clear hw1 hbc
  go_wp2_with fail
  go_ret
  exact⟨rfl,HB1.out⟩
theorem Re (x:Ac) (rv:Value) (bc:Nat) (bw:Nat) (q:Bool) (w:World) (hform:∃a c,rv= .slice a x.n c) (hc:Blk w bc 129 #[.func (.func 78) #[] #[.pointer (some ⟨bw,0,none⟩)]])
 (one:∀w',Below w.heap.size w w'→Calls Tryz.prog 78 #[x.val rv,.pointer (some ⟨bw,0,none⟩)] w' fun e w''=>e= .returned (.bool q)∧Below w'.heap.size w' w''):
 Calls Tryz.prog 125 #[x.val rv,.pointer (some ⟨bc,0,none⟩)] w fun e w'=>e= .returned (.bool (!q))∧Below w.heap.size w w':=by
 obtain⟨ra,rc,rfl⟩:=hform
 have c0:w.cell? ⟨bc,0,none⟩=some (.func (.func 78) #[] #[.pointer (some ⟨bw,0,none⟩)]):=hc.cell 0
 have cl:bc<w.heap.size:=hc.lt
 have HB:=Hd (show∀o,Below w.heap.size w (w.alloc o)from fun o=>Ag w o)
 have HO:=Hd one
 clear hc one
 unfold Ac.val Be
 go_enter Tryz.func125,Tryz.ntmps125
 go_wp2_with (first
  |(go_at_call 78;(with_reducible refine(HO.out _ (Ag _ _)).mono ?_);rintro e w1 ⟨rfl,HBc⟩;have HB2:=Hd (Aa (Ag _ _) HBc);clear HBc)
  |fail)
 go_ret
 exact⟨rfl,HB2.out⟩
theorem KL (W0:World) (l:List Ac) (vl:Value) (hl:LIn Aj Ai W0 l vl) (bw:Nat) (Q:Ac→Bool) (w:World) (hB:Below W0.heap.size W0 w)
 (one:∀x∈l,∀(r:Aj.R) (w':World),Aj.holds Ai W0 x r→Below w.heap.size w w'→Calls Tryz.prog 78 #[x.val r,.pointer (some ⟨bw,0,none⟩)] w' fun e w''=>e= .returned (.bool (Q x))∧Below w'.heap.size w' w''):
 Calls Tryz.prog 77 #[vl,.int .i64 32,.func (.func 78) #[] #[.pointer (some ⟨bw,0,none⟩)]] w fun e w'=>e= .returned (.bool (decide (l.length≤32) && l.all Q))∧Below w.heap.size w w':=by
 obtain⟨a,c,hv⟩:=hl.form
 have hn:=hl.bound
 obtain⟨bc,hbc⟩:∃bc,bc=w.heap.size:=⟨_,rfl⟩
 obtain⟨w1,hw1⟩:∃w1,w1=w.alloc (.cells #[.func (.func 78) #[] #[.pointer (some ⟨bw,0,none⟩)]] 129):=⟨_,rfl⟩
 have hb1:Below w.heap.size w w1:=by rw[hw1];exact Ag _ _
 have hx:Blk w1 bc 129 #[.func (.func 78) #[] #[.pointer (some ⟨bw,0,none⟩)]]:=by rw[hw1,hbc];exact Blk.new _ _ _
 have HCF:=Hd (show Calls Tryz.prog 124 #[vl,.func (.func 125) #[] #[.pointer (some ⟨bc,0,none⟩)]] w1 fun e w'=>e= .returned (.bool (!(l.all Q)))∧Below w1.heap.size w1 w' from by
  have:=J5 W0 l vl hl bc (fun x=> !(Q x)) w1 (hB.trans (hb1.mono hB.size)) (fun x hx' r w' hh hw'=>Re x r bc bw (Q x) w' (AZ.is hh).form (hx.below hw' hx.lt) (fun w'' h2=>one x hx' r w'' hh (Aa hb1 (Aa hw' h2))))
  rw[show(l.any fun x=> !(Q x))= !(l.all Q)from by rw[List.not_all_eq_any_not]]at this
  exact this)
 have HB1:=Hd hb1
 clear hl one hB hx hb1
 subst hv
 by_cases hle:l.length≤32
 ·have h1:decide ((l.length:Int)≤32)=true:=by rw[decide_eq_true];omega
  have h2:(l.length:Int)≤32:=by omega
  rw[decide_eq_true hle,Bool.true_and]
  obtain⟨qa,hqa⟩:∃qa,qa=l.all Q:=⟨_,rfl⟩
  rw[←hqa]at HCF ⊢
  clear hqa hle
  go_enter Tryz.func77,Tryz.ntmps77
  go_upto_region 1 with fail
  rw[←hw1,←hbc]
  clear hw1 hbc
  go_wp2_with (first
   |(go_at_call 124;(with_reducible refine HCF.out.mono ?_);rintro e w2 ⟨rfl,HBc⟩;have HB2:=Hd (Aa HB1.out HBc);clear HBc)
   |fail)
  go_ret
  exact⟨by simp,HB2.out⟩
 ·have h1:decide ((l.length:Int)≤32)=false:=by rw[decide_eq_false];omega
  have h2:(32:Int)<(l.length:Int):=by omega
  rw[decide_eq_false hle,Bool.false_and]
  clear HCF hle
  go_enter Tryz.func77,Tryz.ntmps77
  go_upto_region 1 with fail
  rw[←hw1,←hbc]
  clear hw1 hbc
  go_wp2_with fail
  go_ret
  exact⟨rfl,HB1.out⟩
open Go.ChangeShapes Go.WideShapes Go.ChangeAt Go.RowKit Go.Deep
theorem Mg (W:World) (wh:Int) (hwh:0≤wh∧wh<256) (r:Ac):∀(s:Value) (al:Bool) (w:World),Au W r s→Below W.heap.size W w→
 Calls Tryz.prog 177 #[r.val s,.int .u8 wh,.bool al] w fun e w'=>e= .returned (.bool (B8 wh r al))∧Below w.heap.size w w':=by
 have step:∀(r:Ac) (s:Value) (al:Bool) (w:World),Au W r s→Below W.heap.size W w→
  (∀j,j<r.n→∀(s:Value) (al:Bool) (w:World),Au W (r.args j) s→Below W.heap.size W w→Calls Tryz.prog 177 #[(r.args j).val s,.int .u8 wh,.bool al] w fun e w'=>e= .returned (.bool (B8 wh (r.args j) al))∧Below w.heap.size w w')→
  Calls Tryz.prog 177 #[r.val s,.int .u8 wh,.bool al] w fun e w'=>e= .returned (.bool (B8 wh r al))∧Below w.heap.size w w':=by
  intro r s al w hs hB ih
  obtain⟨a,c,rfl⟩:=hs.form
  obtain⟨S,hA,hS⟩:=hs.elems2
  have hn9:=hs.bound
  have hfit:=Au.node_n hs
  obtain⟨T,hT⟩:∃T,T=B8 wh r al:=⟨_,rfl⟩
  rw[←hT]
  rw[Px]at hT
  obtain⟨g,hg⟩:∃g,g=w.heap.size:=⟨_,rfl⟩
  obtain⟨w1,hw1⟩:∃w1,w1=w.alloc (AT r (.slice a r.n c)):=⟨_,rfl⟩
  have HR1:=Hd (show AH w1 g 0 r (.slice a r.n c)∧Below w.heap.size w w1 from⟨by rw[hw1,hg];exact C6 _ _ _,by rw[hw1];exact Ag _ _⟩)
  have HE:=Hd (show∀w',Below W.heap.size W w'→∀j,j<r.n→∃b o,a=some ⟨b,o,none⟩∧AH w' b (o+j*7) (r.args j) (S j)from fun w' h j hj=>by
   obtain⟨b,o,h1,h2⟩:=hA j hj
   exact⟨b,o,h1,h2.below h⟩)
  have HI:=Hd (show∀j,j<r.n→∀al' w',Below W.heap.size W w'→Calls Tryz.prog 177 #[(r.args j).val (S j),.int .u8 wh,.bool al'] w' fun e w''=>e= .returned (.bool (B8 wh (r.args j) al'))∧Below w'.heap.size w' w'' from fun j hj al' w' h=>ih j hj _ al' w' (hS j hj) h)
  have HSf:=Hd (show∀j,j<r.n→∃a' c',S j= .slice a' (r.args j).n c' from fun j hj=>(hS j hj).form)
  have HBW:=Hd hB
  have HDM:=Hd (fun(w':World)=>Fs r.dep w' hfit.1)
  obtain⟨d0,d1,d2,d3,d4,d5,d6,d7⟩:=HR1.out.1
  simp only[Nat.zero_add]at d1 d2 d3 d4 d5 d6
  clear hA hS hs ih hB hfit
  by_cases hk1:r.kind=1
  ·rw[if_pos hk1]at hT
   have hkd:(r.kind==1)=true:=by simpa using hk1
   obtain⟨dv,hdv⟩:∃dv,dv=Ca r.dep:=⟨_,rfl⟩
   rw[←hdv]at HDM hT
   clear hdv hk1
   by_cases h0:r.n=0
   ·have hz:((r.n:Int)==0)=true:=by simp[h0]
    have HT:=Hd (show T=dv by rw[hT,decide_eq_true h0];rfl)
    clear hT h0
    unfold Ac.val Be
    go_enter Tryz.func177,Tryz.ntmps177
    go_upto_region 1 with fail
    rw[←hw1,←hg]
    clear hw1 hg
    go_wp2_with (first
     |(go_at_call 146;(with_reducible refine(HDM.out _).mono ?_);rintro e wx ⟨rfl,HBc⟩;have HBx:=Hd (Aa HR1.out.2 HBc);clear HBc)
     |fail)
    go_ret
    exact⟨Af HT.out.symm,HBx.out⟩
   ·have hz:((r.n:Int)==0)=false:=by simp;omega
    have hz2:¬(r.n:Int)=0:=by omega
    have HT:=Hd (show T=false by rw[hT,decide_eq_false h0];rfl)
    clear hT h0
    unfold Ac.val Be
    go_enter Tryz.func177,Tryz.ntmps177
    go_upto_region 1 with fail
    rw[←hw1,←hg]
    clear hw1 hg
    go_wp2_with fail
    go_ret
    exact⟨Af HT.out.symm,HR1.out.2⟩
  ·rw[if_neg hk1]at hT
   have HT:=Hd hT
   obtain⟨ok,hok⟩:∃ok,ok=okE wh r.kind r.n al:=⟨_,rfl⟩
   obtain⟨al',hal⟩:∃al',al'=A0 r.kind al:=⟨_,rfl⟩
   have hkd:(r.kind==1)=false:=by simpa using hk1
   have HT2:=Hd (show T=((ok && r.dep.none) && CQ (fun j=>B8 wh (r.args j) al') r.n) by rw[hT,hok,hal])
   clear hT HDM
   unfold Ac.val Be
   go_enter Tryz.func177,Tryz.ntmps177
   go_upto_region 1 with fail
   rw[←hw1,←hg]
   clear hw1 hg
   go_upto_region 2 with fail
   go_cut [8]from 10 (fun x wy=>x= .bool false∧wy=w1)
   case first=>
    go_wp2_with fail
    go_meet
    case rel=>exact⟨rfl,rfl⟩
   case rest=>
    obtain⟨rfl,rfl⟩:=hcut
    go_step
    go_step
    go_cut [2,8]from 10 (fun x y wy=>x= .bool al'∧y= .bool ok∧wy=wc)
    case first=>
     by_cases hk2:r.kind=2
     ·by_cases hn2:2≤r.n
      ·have kf2:(r.kind==2)=true:=by simpa using hk2
       obtain rfl:ok=true:=by rw[hok];simp[okE,hk2,hn2]
       obtain rfl:al'=al:=by rw[hal];simp[A0,hk2]
       have n1:decide ((2:Int)≤(r.n:Int))=true:=by rw[decide_eq_true];omega
       have n2:(2:Int)≤(r.n:Int):=by omega
       clear hok hal hk2 hk1
       go_wp2_with fail
       go_meet
       case rel=>exact⟨rfl,rfl,rfl⟩
      ·have kf2:(r.kind==2)=true:=by simpa using hk2
       obtain rfl:ok=false:=by rw[hok];simp[okE,hk2,hn2]
       obtain rfl:al'=al:=by rw[hal];simp[A0,hk2]
       have n1:decide ((2:Int)≤(r.n:Int))=false:=by rw[decide_eq_false];omega
       have n2:(r.n:Int)<2:=by omega
       clear hok hal hk2 hk1
       go_wp2_with fail
       go_meet
       case rel=>exact⟨rfl,rfl,rfl⟩
     by_cases hk3:r.kind=3
     ·by_cases hn2:2≤r.n
      ·have kf2:(r.kind==2)=false:=by simp[hk3]
       have kf3:(r.kind==3)=true:=by simpa using hk3
       obtain rfl:ok=true:=by rw[hok];simp[okE,hk3,hn2]
       obtain rfl:al'=al:=by rw[hal];simp[A0,hk3]
       have n1:decide ((2:Int)≤(r.n:Int))=true:=by rw[decide_eq_true];omega
       have n2:(2:Int)≤(r.n:Int):=by omega
       clear hok hal hk3 hk1
       go_wp2_with fail
       go_meet
       case rel=>exact⟨rfl,rfl,rfl⟩
      ·have kf2:(r.kind==2)=false:=by simp[hk3]
       have kf3:(r.kind==3)=true:=by simpa using hk3
       obtain rfl:ok=false:=by rw[hok];simp[okE,hk3,hn2]
       obtain rfl:al'=al:=by rw[hal];simp[A0,hk3]
       have n1:decide ((2:Int)≤(r.n:Int))=false:=by rw[decide_eq_false];omega
       have n2:(r.n:Int)<2:=by omega
       clear hok hal hk3 hk1
       go_wp2_with fail
       go_meet
       case rel=>exact⟨rfl,rfl,rfl⟩
     by_cases hk6:r.kind=6
     ·by_cases hn2:2≤r.n
      ·have kf2:(r.kind==2)=false:=by simp[hk6]
       have kf3:(r.kind==3)=false:=by simp[hk6]
       have kf6:(r.kind==6)=true:=by simpa using hk6
       obtain rfl:ok=true:=by rw[hok];simp[okE,hk6,hn2]
       obtain rfl:al'=true:=by rw[hal];simp[A0,hk6]
       have n1:decide ((2:Int)≤(r.n:Int))=true:=by rw[decide_eq_true];omega
       have n2:(2:Int)≤(r.n:Int):=by omega
       clear hok hal hk6 hk1
       go_wp2_with fail
       go_meet
       case rel=>exact⟨rfl,rfl,rfl⟩
      ·have kf2:(r.kind==2)=false:=by simp[hk6]
       have kf3:(r.kind==3)=false:=by simp[hk6]
       have kf6:(r.kind==6)=true:=by simpa using hk6
       obtain rfl:ok=false:=by rw[hok];simp[okE,hk6,hn2]
       obtain rfl:al'=true:=by rw[hal];simp[A0,hk6]
       have n1:decide ((2:Int)≤(r.n:Int))=false:=by rw[decide_eq_false];omega
       have n2:(r.n:Int)<2:=by omega
       clear hok hal hk6 hk1
       go_wp2_with fail
       go_meet
       case rel=>exact⟨rfl,rfl,rfl⟩
     by_cases hk7:r.kind=7
     ·by_cases hn2:r.n=2
      ·have kf2:(r.kind==2)=false:=by simp[hk7]
       have kf3:(r.kind==3)=false:=by simp[hk7]
       have kf6:(r.kind==6)=false:=by simp[hk7]
       have kf7:(r.kind==7)=true:=by simpa using hk7
       obtain rfl:ok=true:=by rw[hok];simp[okE,hk7,hn2]
       obtain rfl:al'=true:=by rw[hal];simp[A0,hk7]
       have n1:((r.n:Int)==2)=true:=by simp;omega
       clear hn2
       clear hok hal hk7 hk1
       go_wp2_with fail
       go_meet
       case rel=>exact⟨rfl,rfl,rfl⟩
      ·have kf2:(r.kind==2)=false:=by simp[hk7]
       have kf3:(r.kind==3)=false:=by simp[hk7]
       have kf6:(r.kind==6)=false:=by simp[hk7]
       have kf7:(r.kind==7)=true:=by simpa using hk7
       obtain rfl:ok=false:=by rw[hok];simp[okE,hk7,hn2]
       obtain rfl:al'=true:=by rw[hal];simp[A0,hk7]
       have n1:((r.n:Int)==2)=false:=by simp;omega
       have n2:¬(r.n:Int)=2:=by omega
       clear hn2
       clear hok hal hk7 hk1
       go_wp2_with fail
       go_meet
       case rel=>exact⟨rfl,rfl,rfl⟩
     by_cases hk4:r.kind=4
     ·by_cases hn2:r.n=2
      ·cases al with
       |true=>
        have kf2:(r.kind==2)=false:=by simp[hk4]
        have kf3:(r.kind==3)=false:=by simp[hk4]
        have kf6:(r.kind==6)=false:=by simp[hk4]
        have kf7:(r.kind==7)=false:=by simp[hk4]
        have kf4:(r.kind==4)=true:=by simpa using hk4
        obtain rfl:ok=false:=by rw[hok];simp[okE,hk4]
        obtain rfl:al'=true:=by rw[hal];simp[A0,hk4]
        have n1:((r.n:Int)==2)=true:=by simp;omega
        clear hn2
        clear hok hal hk4 hk1
        go_wp2_with fail
        go_meet
        case rel=>exact⟨rfl,rfl,rfl⟩
       |false=>
        by_cases hw:wh=1
        ·have kf2:(r.kind==2)=false:=by simp[hk4]
         have kf3:(r.kind==3)=false:=by simp[hk4]
         have kf6:(r.kind==6)=false:=by simp[hk4]
         have kf7:(r.kind==7)=false:=by simp[hk4]
         have kf4:(r.kind==4)=true:=by simpa using hk4
         obtain rfl:ok=true:=by rw[hok];simp[okE,hk4,hn2,hw]
         obtain rfl:al'=false:=by rw[hal];simp[A0,hk4]
         have n1:((r.n:Int)==2)=true:=by simp;omega
         have v1:(wh==1)=true:=by simpa using hw
         clear hn2 hw
         clear hok hal hk4 hk1
         go_wp2_with fail
         go_meet
         case rel=>exact⟨rfl,rfl,rfl⟩
        ·have kf2:(r.kind==2)=false:=by simp[hk4]
         have kf3:(r.kind==3)=false:=by simp[hk4]
         have kf6:(r.kind==6)=false:=by simp[hk4]
         have kf7:(r.kind==7)=false:=by simp[hk4]
         have kf4:(r.kind==4)=true:=by simpa using hk4
         obtain rfl:ok=false:=by rw[hok];simp[okE,hk4,hn2,hw]
         obtain rfl:al'=false:=by rw[hal];simp[A0,hk4]
         have n1:((r.n:Int)==2)=true:=by simp;omega
         have v1:(wh==1)=false:=by simpa using hw
         clear hn2 hw
         clear hok hal hk4 hk1
         go_wp2_with fail
         go_meet
         case rel=>exact⟨rfl,rfl,rfl⟩
      ·by_cases hn3:r.n=3
       ·cases al with
        |true=>
         have kf2:(r.kind==2)=false:=by simp[hk4]
         have kf3:(r.kind==3)=false:=by simp[hk4]
         have kf6:(r.kind==6)=false:=by simp[hk4]
         have kf7:(r.kind==7)=false:=by simp[hk4]
         have kf4:(r.kind==4)=true:=by simpa using hk4
         obtain rfl:ok=false:=by rw[hok];simp[okE,hk4]
         obtain rfl:al'=true:=by rw[hal];simp[A0,hk4]
         have n1:((r.n:Int)==2)=false:=by simp;omega
         have n2:((r.n:Int)==3)=true:=by simp;omega
         have n3:¬(r.n:Int)=2:=by omega
         clear hn2 hn3
         clear hok hal hk4 hk1
         go_wp2_with fail
         go_meet
         case rel=>exact⟨rfl,rfl,rfl⟩
        |false=>
         by_cases hw:wh=1
         ·have kf2:(r.kind==2)=false:=by simp[hk4]
          have kf3:(r.kind==3)=false:=by simp[hk4]
          have kf6:(r.kind==6)=false:=by simp[hk4]
          have kf7:(r.kind==7)=false:=by simp[hk4]
          have kf4:(r.kind==4)=true:=by simpa using hk4
          obtain rfl:ok=true:=by rw[hok];simp[okE,hk4,hn3,hw]
          obtain rfl:al'=false:=by rw[hal];simp[A0,hk4]
          have n1:((r.n:Int)==2)=false:=by simp;omega
          have n2:((r.n:Int)==3)=true:=by simp;omega
          have n3:¬(r.n:Int)=2:=by omega
          have v1:(wh==1)=true:=by simpa using hw
          clear hn2 hn3 hw
          clear hok hal hk4 hk1
          go_wp2_with fail
          go_meet
          case rel=>exact⟨rfl,rfl,rfl⟩
         ·have kf2:(r.kind==2)=false:=by simp[hk4]
          have kf3:(r.kind==3)=false:=by simp[hk4]
          have kf6:(r.kind==6)=false:=by simp[hk4]
          have kf7:(r.kind==7)=false:=by simp[hk4]
          have kf4:(r.kind==4)=true:=by simpa using hk4
          obtain rfl:ok=false:=by rw[hok];simp[okE,hk4,hn3,hw]
          obtain rfl:al'=false:=by rw[hal];simp[A0,hk4]
          have n1:((r.n:Int)==2)=false:=by simp;omega
          have n2:((r.n:Int)==3)=true:=by simp;omega
          have n3:¬(r.n:Int)=2:=by omega
          have v1:(wh==1)=false:=by simpa using hw
          clear hn2 hn3 hw
          clear hok hal hk4 hk1
          go_wp2_with fail
          go_meet
          case rel=>exact⟨rfl,rfl,rfl⟩
       ·have kf2:(r.kind==2)=false:=by simp[hk4]
        have kf3:(r.kind==3)=false:=by simp[hk4]
        have kf6:(r.kind==6)=false:=by simp[hk4]
        have kf7:(r.kind==7)=false:=by simp[hk4]
        have kf4:(r.kind==4)=true:=by simpa using hk4
        obtain rfl:ok=false:=by rw[hok];simp[okE,hk4,hn2,hn3]
        obtain rfl:al'=al:=by rw[hal];simp[A0,hk4]
        have n1:((r.n:Int)==2)=false:=by simp;omega
        have n2:((r.n:Int)==3)=false:=by simp;omega
        have n3:¬(r.n:Int)=2:=by omega
        have n4:¬(r.n:Int)=3:=by omega
        clear hn2 hn3
        clear hok hal hk4 hk1
        go_wp2_with fail
        go_meet
        case rel=>exact⟨rfl,rfl,rfl⟩
     by_cases hk5:r.kind=5
     ·by_cases hn2:r.n=2
      ·cases al with
       |true=>
        have kf2:(r.kind==2)=false:=by simp[hk5]
        have kf3:(r.kind==3)=false:=by simp[hk5]
        have kf6:(r.kind==6)=false:=by simp[hk5]
        have kf7:(r.kind==7)=false:=by simp[hk5]
        have kf4:(r.kind==4)=false:=by simp[hk5]
        have kf5:(r.kind==5)=true:=by simpa using hk5
        obtain rfl:ok=false:=by rw[hok];simp[okE,hk5]
        obtain rfl:al'=true:=by rw[hal];simp[A0,hk5]
        have n1:((r.n:Int)==2)=true:=by simp;omega
        clear hn2
        clear hok hal hk5 hk1
        go_wp2_with fail
        go_meet
        case rel=>exact⟨rfl,rfl,rfl⟩
       |false=>
        by_cases hw:wh≤2
        ·have kf2:(r.kind==2)=false:=by simp[hk5]
         have kf3:(r.kind==3)=false:=by simp[hk5]
         have kf6:(r.kind==6)=false:=by simp[hk5]
         have kf7:(r.kind==7)=false:=by simp[hk5]
         have kf4:(r.kind==4)=false:=by simp[hk5]
         have kf5:(r.kind==5)=true:=by simpa using hk5
         obtain rfl:ok=true:=by rw[hok];simp[okE,hk5,hn2,hw]
         obtain rfl:al'=false:=by rw[hal];simp[A0,hk5]
         have n1:((r.n:Int)==2)=true:=by simp;omega
         have v1:decide (wh≤2)=true:=by simpa using hw
         have v2:wh≤2:=hw
         clear hn2 hw
         clear hok hal hk5 hk1
         go_wp2_with fail
         go_meet
         case rel=>exact⟨rfl,rfl,rfl⟩
        ·have kf2:(r.kind==2)=false:=by simp[hk5]
         have kf3:(r.kind==3)=false:=by simp[hk5]
         have kf6:(r.kind==6)=false:=by simp[hk5]
         have kf7:(r.kind==7)=false:=by simp[hk5]
         have kf4:(r.kind==4)=false:=by simp[hk5]
         have kf5:(r.kind==5)=true:=by simpa using hk5
         obtain rfl:ok=false:=by rw[hok];simp[okE,hk5,hn2,hw]
         obtain rfl:al'=false:=by rw[hal];simp[A0,hk5]
         have n1:((r.n:Int)==2)=true:=by simp;omega
         have v1:decide (wh≤2)=false:=by simpa using hw
         have v2:2<wh:=by omega
         clear hn2 hw
         clear hok hal hk5 hk1
         go_wp2_with fail
         go_meet
         case rel=>exact⟨rfl,rfl,rfl⟩
      ·by_cases hn3:r.n=3
       ·cases al with
        |true=>
         have kf2:(r.kind==2)=false:=by simp[hk5]
         have kf3:(r.kind==3)=false:=by simp[hk5]
         have kf6:(r.kind==6)=false:=by simp[hk5]
         have kf7:(r.kind==7)=false:=by simp[hk5]
         have kf4:(r.kind==4)=false:=by simp[hk5]
         have kf5:(r.kind==5)=true:=by simpa using hk5
         obtain rfl:ok=false:=by rw[hok];simp[okE,hk5]
         obtain rfl:al'=true:=by rw[hal];simp[A0,hk5]
         have n1:((r.n:Int)==2)=false:=by simp;omega
         have n2:((r.n:Int)==3)=true:=by simp;omega
         have n3:¬(r.n:Int)=2:=by omega
         clear hn2 hn3
         clear hok hal hk5 hk1
         go_wp2_with fail
         go_meet
         case rel=>exact⟨rfl,rfl,rfl⟩
        |false=>
         by_cases hw:wh≤2
         ·have kf2:(r.kind==2)=false:=by simp[hk5]
          have kf3:(r.kind==3)=false:=by simp[hk5]
          have kf6:(r.kind==6)=false:=by simp[hk5]
          have kf7:(r.kind==7)=false:=by simp[hk5]
          have kf4:(r.kind==4)=false:=by simp[hk5]
          have kf5:(r.kind==5)=true:=by simpa using hk5
          obtain rfl:ok=true:=by rw[hok];simp[okE,hk5,hn3,hw]
          obtain rfl:al'=false:=by rw[hal];simp[A0,hk5]
          have n1:((r.n:Int)==2)=false:=by simp;omega
          have n2:((r.n:Int)==3)=true:=by simp;omega
          have n3:¬(r.n:Int)=2:=by omega
          have v1:decide (wh≤2)=true:=by simpa using hw
          have v2:wh≤2:=hw
          clear hn2 hn3 hw
          clear hok hal hk5 hk1
          go_wp2_with fail
          go_meet
          case rel=>exact⟨rfl,rfl,rfl⟩
         ·have kf2:(r.kind==2)=false:=by simp[hk5]
          have kf3:(r.kind==3)=false:=by simp[hk5]
          have kf6:(r.kind==6)=false:=by simp[hk5]
          have kf7:(r.kind==7)=false:=by simp[hk5]
          have kf4:(r.kind==4)=false:=by simp[hk5]
          have kf5:(r.kind==5)=true:=by simpa using hk5
          obtain rfl:ok=false:=by rw[hok];simp[okE,hk5,hn3,hw]
          obtain rfl:al'=false:=by rw[hal];simp[A0,hk5]
          have n1:((r.n:Int)==2)=false:=by simp;omega
          have n2:((r.n:Int)==3)=true:=by simp;omega
          have n3:¬(r.n:Int)=2:=by omega
          have v1:decide (wh≤2)=false:=by simpa using hw
          have v2:2<wh:=by omega
          clear hn2 hn3 hw
          clear hok hal hk5 hk1
          go_wp2_with fail
          go_meet
          case rel=>exact⟨rfl,rfl,rfl⟩
       ·have kf2:(r.kind==2)=false:=by simp[hk5]
        have kf3:(r.kind==3)=false:=by simp[hk5]
        have kf6:(r.kind==6)=false:=by simp[hk5]
        have kf7:(r.kind==7)=false:=by simp[hk5]
        have kf4:(r.kind==4)=false:=by simp[hk5]
        have kf5:(r.kind==5)=true:=by simpa using hk5
        obtain rfl:ok=false:=by rw[hok];simp[okE,hk5,hn2,hn3]
        obtain rfl:al'=al:=by rw[hal];simp[A0,hk5]
        have n1:((r.n:Int)==2)=false:=by simp;omega
        have n2:((r.n:Int)==3)=false:=by simp;omega
        have n3:¬(r.n:Int)=2:=by omega
        have n4:¬(r.n:Int)=3:=by omega
        clear hn2 hn3
        clear hok hal hk5 hk1
        go_wp2_with fail
        go_meet
        case rel=>exact⟨rfl,rfl,rfl⟩
     have kf2:(r.kind==2)=false:=by simpa using hk2
     have kf3:(r.kind==3)=false:=by simpa using hk3
     have kf6:(r.kind==6)=false:=by simpa using hk6
     have kf7:(r.kind==7)=false:=by simpa using hk7
     have kf4:(r.kind==4)=false:=by simpa using hk4
     have kf5:(r.kind==5)=false:=by simpa using hk5
     obtain rfl:ok=false:=by rw[hok];simp[okE,hk2,hk3,hk6,hk7,hk4,hk5]
     obtain rfl:al'=al:=by rw[hal];unfold A0;rw[kf6,kf7];simp
     clear hok hal hk2 hk3 hk6 hk7 hk4 hk5 hk1
     go_wp2_with fail
     go_meet
     case rel=>exact⟨rfl,rfl,rfl⟩
    case rest=>
     obtain⟨rfl,rfl,rfl⟩:=hcut
     clear hal hok
     cases ok with
     |false=>
      have HF:=Hd (show T=false by rw[HT2.out];rfl)
      go_wp2_with fail
      go_ret
      exact⟨Af HF.out.symm,HR1.out.2⟩
     |true=>
      have HN:=Hd (show r.dep.none=false→T=false from fun h=>by rw[HT2.out,h];rfl)
      have HY:=Hd (show r.dep.none=true→T=CQ (fun j=>B8 wh (r.args j) al') r.n from fun h=>by rw[HT2.out,h];rfl)
      go_wp2_with fail
      rotate_left
      all_goals first
       |(go_ret
         first
          |exact⟨Af ((HN.out (E8 (by assumption))).symm),HR1.out.2⟩
          |exact⟨Af ((HN.out (IC (by assumption))).symm),HR1.out.2⟩
          |exact⟨Af ((HN.out (ID (by assumption))).symm),HR1.out.2⟩
          |exact⟨Af ((HN.out (Gm (by assumption))).symm),HR1.out.2⟩
          |exact⟨Af ((HN.out (Gn (by assumption))).symm),HR1.out.2⟩)
       |skip
      have HTT:=Hd (HY.out (Jt (by assumption) (by assumption) (by assumption) (by assumption) (by assumption)))
      clear HN HY HT2 HT d0 d1 d2 d3 d4 d5
      go_loopw [9] (fun i wr=>∃k:Nat,k≤r.n∧i= .int .i64 k∧Hid (CQ (fun j=>B8 wh (r.args j) al') k=true)∧Hid (AH wr g 0 r (.slice a r.n c)∧Below w.heap.size w wr)) (fun i wr=>r.n-(intOf i).toNat)
      case atStart=>exact⟨0,by omega,rfl,Hd rfl,HR1⟩
      case round=>
       obtain⟨k,hk,rfl,HQ,HRk⟩:=hrel
       have d6:=HRk.out.1.c6
       simp only[Nat.zero_add]at d6
       have d7:=HRk.out.1.lt
       by_cases hlt:k<r.n
       ·have hki:(k:Int)<(r.n:Int):=by omega
        have HB2:=Hd (HBW.out.trans (HRk.out.2.mono HBW.out.size))
        obtain⟨b,o,ha,y0,y1,y2,y3,y4,y5,y6,y7⟩:=HE.out wr HB2.out k hlt
        subst ha
        obtain⟨xa,xc,hx⟩:=HSf.out k hlt
        have HM:=Hd (HI.out k hlt al' wr HB2.out)
        simp only[hx]at HM y6
        obtain⟨bb,hbb⟩:∃bb,bb=B8 wh (r.args k) al':=⟨_,rfl⟩
        rw[←hbb]at HM
        have HBb:=Hd hbb
        clear hbb
        cases bb with
        |true=>
         go_wp2_with (first
          |(go_at_call 177;(with_reducible refine(HM.out).mono ?_);rintro e wx ⟨rfl,HBc⟩;have HRx:=Hd (show AH wx g 0 r (.slice (some ⟨b,o,none⟩) r.n c)∧Below w.heap.size w wx from⟨HRk.out.1.below HBc,Aa HRk.out.2 HBc⟩);clear HBc)
          |fail)
         go_roundw
         case rel=>exact⟨k+1,by omega,by go_num,Hd (by simp only[CQ];rw[HQ.out,←HBb.out];rfl),HRx⟩
         case measure=>simp[intOf];omega
        |false=>
         have HT3:=Hd (show T=false by rw[HTT.out];exact F0 r.n hlt HBb.out.symm)
         go_wp2_with (first
          |(go_at_call 177;(with_reducible refine(HM.out).mono ?_);rintro e wx ⟨rfl,HBc⟩;have HBx:=Hd (Aa HRk.out.2 HBc);clear HBc)
          |fail)
         go_ret
         exact⟨Af HT3.out.symm,HBx.out⟩
       ·obtain rfl:k=r.n:=by omega
        have HT3:=Hd (show T=true by rw[HTT.out];exact HQ.out)
        go_wp2_with fail
        go_ret
        exact⟨Af HT3.out.symm,HRk.out.2⟩
 induction r with
 |nil=>exact fun s al w h1 h2=>step .nil s al w h1 h2 (fun j hj=>absurd hj (Nat.not_lt_zero j))
 |node k d n f ih=>exact fun s al w h1 h2=>step (.node k d n f) s al w h1 h2 (fun j _=>ih j)
theorem Nk (W:World) (r:Ac) (s:Value) (hs:Au W r s) (w:World) (hB:Below W.heap.size W w) (hc:r.count≤4611686018427387904) (wh:Int) (hwh:0≤wh∧wh<256):
 Calls Tryz.prog 147 #[r.val s,.int .u8 wh] w fun e w'=>e= .returned (.int .i64 (CS r wh))∧Below w.heap.size w w':=by
 obtain⟨T,hT⟩:∃T,T=CS r wh:=⟨_,rfl⟩
 rw[←hT]
 rw[←NJ]at hT
 unfold Nl at hT
 obtain⟨w1,hw1⟩:∃w1,w1=w.alloc (AT r s):=⟨_,rfl⟩
 obtain⟨g,hg⟩:∃g,g=w.heap.size:=⟨_,rfl⟩
 have HR1:=Hd (show A6 w1 g r s∧Below w.heap.size w w1 from⟨by rw[hw1,hg];exact A6.new _ _ _,by rw[hw1];exact Ag _ _⟩)
 have HCn:=Hd (fun(w':World) (h:Below w.heap.size w w')=>Kq W r s hs w' (hB.trans (h.mono hB.size)) hc)
 have HDp:=Hd (fun(w':World) (h:Below w.heap.size w w')=>Ko W r s hs w' (hB.trans (h.mono hB.size)) hc)
 have HFt:=Hd (fun(w':World) (h:Below w.heap.size w w')=>Mg W wh hwh r s false w' hs (hB.trans (h.mono hB.size)))
 obtain⟨nn,hnn⟩:∃n,n=r.count:=⟨_,rfl⟩
 obtain⟨tt,htt⟩:∃n,n=r.depth:=⟨_,rfl⟩
 obtain⟨ff,hff⟩:∃f,f=B8 wh r false:=⟨_,rfl⟩
 rw[←hnn]at HCn hT
 rw[←htt]at HDp hT
 rw[←hff]at HFt hT
 have HRb:=Hd (fun(w':World) (h:Below w1.heap.size w1 w')=>(show A6 w' g r s∧Below w.heap.size w w' from⟨HR1.out.1.below h,Aa HR1.out.2 h⟩))
 have HB1:=Hd (Below.refl w1.heap.size w1)
 have d0:w1.cell? ⟨g,0,none⟩=some (.int .u8 r.kind):=HR1.out.1.cell 0
 have d1:w1.cell? ⟨g,1,none⟩=some (.string r.dep.name):=HR1.out.1.cell 1
 have d2:w1.cell? ⟨g,2,none⟩=some (.int .u8 r.dep.op):=HR1.out.1.cell 2
 have d3:w1.cell? ⟨g,3,none⟩=some (.int .i64 r.dep.ep):=HR1.out.1.cell 3
 have d4:w1.cell? ⟨g,4,none⟩=some (.string r.dep.ver):=HR1.out.1.cell 4
 have d5:w1.cell? ⟨g,5,none⟩=some (.string r.dep.rel):=HR1.out.1.cell 5
 have d6:w1.cell? ⟨g,6,none⟩=some s:=HR1.out.1.cell 6
 clear hs hB hnn htt hff
 by_cases h1:wh<1
 ·rw[if_pos (.inl h1)]at hT
  subst hT
  have k1:decide (wh<1)=true:=by simpa using h1
  clear HCn HDp HFt
  unfold Ac.val Be
  go_enter Tryz.func147,Tryz.ntmps147
  go_upto_region 1 with fail
  rw[←hw1]
  clear hw1 hg
  go_wp2_with fail
  go_ret
  exact⟨rfl,HR1.out.2⟩
 have k1:decide (wh<1)=false:=by simpa using h1
 by_cases h3:3<wh
 ·rw[if_pos (.inr h3)]at hT
  subst hT
  have k3:decide (3<wh)=true:=by simpa using h3
  clear HCn HDp HFt
  unfold Ac.val Be
  go_enter Tryz.func147,Tryz.ntmps147
  go_upto_region 1 with fail
  rw[←hw1]
  clear hw1 hg
  go_wp2_with fail
  go_ret
  exact⟨rfl,HR1.out.2⟩
 have k3:decide (3<wh)=false:=by simpa using h3
 rw[if_neg (by omega)]at hT
 have hcase:(24<nn∧T=40)∨(¬24<nn∧8<tt∧T=21)∨(¬24<nn∧¬8<tt∧ff=true∧T=0)∨(¬24<nn∧¬8<tt∧ff=false∧T=4):=by
  by_cases h4:24<nn
  ·rw[if_pos h4]at hT;exact .inl ⟨h4,hT⟩
  ·rw[if_neg h4]at hT
   by_cases h5:8<tt
   ·rw[if_pos h5]at hT;exact .inr (.inl ⟨h4,h5,hT⟩)
   ·rw[if_neg h5]at hT
    cases ff with
    |true=>exact .inr (.inr (.inl ⟨h4,h5,rfl,hT⟩))
    |false=>exact .inr (.inr (.inr ⟨h4,h5,rfl,hT⟩))
 clear hT
 rcases hcase with ⟨h4,rfl⟩|⟨h4,h5,rfl⟩|⟨h4,h5,rfl,rfl⟩|⟨h4,h5,rfl,rfl⟩
 ·have q1:decide ((24:Int)<(nn:Int))=true:=by rw[decide_eq_true];omega
  have q2:(24:Int)<(nn:Int):=by omega
  clear h4
  unfold Ac.val Be
  go_enter Tryz.func147,Tryz.ntmps147
  go_upto_region 1 with fail
  rw[←hw1,←hg]
  clear hw1 hg
  go_wp2_with (first
   |(go_at_call 175;(with_reducible refine(HCn.out _ (HRb.out _ HB1.out).2).mono ?_);rintro e wx ⟨rfl,HBc⟩;have HB1:=Hd (Aa HB1.out HBc);clear HBc)
   |fail)
  go_ret
  exact⟨rfl,(HRb.out _ HB1.out).2⟩
 ·have q1:decide ((24:Int)<(nn:Int))=false:=by rw[decide_eq_false];omega
  have q2:(nn:Int)≤(24:Int):=by omega
  have q3:decide ((8:Int)<(tt:Int))=true:=by rw[decide_eq_true];omega
  have q4:(8:Int)<(tt:Int):=by omega
  clear h4 h5
  unfold Ac.val Be
  go_enter Tryz.func147,Tryz.ntmps147
  go_upto_region 1 with fail
  rw[←hw1,←hg]
  clear hw1 hg
  go_wp2_with (first
   |(go_at_call 175;(with_reducible refine(HCn.out _ (HRb.out _ HB1.out).2).mono ?_);rintro e wx ⟨rfl,HBc⟩;have HB1:=Hd (Aa HB1.out HBc);clear HBc;obtain⟨d0,d1,d2,d3,d4,d5,d6,d7⟩:=(HRb.out _ HB1.out).1.at_;simp only[Nat.zero_add]at d1 d2 d3 d4 d5 d6)
   |(go_at_call 176;(with_reducible refine(HDp.out _ (HRb.out _ HB1.out).2).mono ?_);rintro e wx ⟨rfl,HBc⟩;have HB1:=Hd (Aa HB1.out HBc);clear HBc)
   |fail)
  go_ret
  exact⟨rfl,(HRb.out _ HB1.out).2⟩
 all_goals
  have q1:decide ((24:Int)<(nn:Int))=false:=by rw[decide_eq_false];omega
  have q2:(nn:Int)≤(24:Int):=by omega
  have q3:decide ((8:Int)<(tt:Int))=false:=by rw[decide_eq_false];omega
  have q4:(tt:Int)≤(8:Int):=by omega
  clear h4 h5
  unfold Ac.val Be
  go_enter Tryz.func147,Tryz.ntmps147
  go_upto_region 1 with fail
  rw[←hw1,←hg]
  clear hw1 hg
  go_wp2_with (first
   |(go_at_call 175;(with_reducible refine(HCn.out _ (HRb.out _ HB1.out).2).mono ?_);rintro e wx ⟨rfl,HBc⟩;have HB1:=Hd (Aa HB1.out HBc);clear HBc;obtain⟨d0,d1,d2,d3,d4,d5,d6,d7⟩:=(HRb.out _ HB1.out).1.at_;simp only[Nat.zero_add]at d1 d2 d3 d4 d5 d6)
   |(go_at_call 176;(with_reducible refine(HDp.out _ (HRb.out _ HB1.out).2).mono ?_);rintro e wx ⟨rfl,HBc⟩;have HB1:=Hd (Aa HB1.out HBc);clear HBc;obtain⟨d0,d1,d2,d3,d4,d5,d6,d7⟩:=(HRb.out _ HB1.out).1.at_;simp only[Nat.zero_add]at d1 d2 d3 d4 d5 d6)
   |(go_at_call 177;(with_reducible refine(HFt.out _ (HRb.out _ HB1.out).2).mono ?_);rintro e wx ⟨rfl,HBc⟩;have HB1:=Hd (Aa HB1.out HBc);clear HBc)
   |fail)
  go_ret
  exact⟨rfl,(HRb.out _ HB1.out).2⟩
def DH (a:Int):ByteArray:=if a=1 then⟨#[110,111,97,114,99,104]⟩else if a=2 then⟨#[120,56,54,95,54,52]⟩else if a=3 then⟨#[105,54,56,54]⟩else if a=4 then⟨#[97,97,114,99,104,54,52]⟩else⟨#[]⟩
theorem Fi {a:Int} (h:CV a=true):a=1∨a=2∨a=3∨a=4:=by
 unfold CV at h
 simp only[Bool.and_eq_true,decide_eq_true_eq]at h
 omega
theorem GS {a:Int} (h:CV a=false):¬a=1∧¬a=2∧¬a=3∧¬a=4:=by
 unfold CV at h
 rw[Bool.and_eq_false_iff,decide_eq_false_iff_not,decide_eq_false_iff_not]at h
 omega
theorem Ik (a:Int):(DH a).toList.isEmpty= !CV a:=by
 cases h:CV a with
 |true=>rcases Fi h with rfl|rfl|rfl|rfl<;>decide+kernel
 |false=>
  obtain⟨h1,h2,h3,h4⟩:=GS h
  unfold DH
  rw[if_neg h1,if_neg h2,if_neg h3,if_neg h4]
  decide+kernel
theorem PX (a:Int) (w:World):Calls Tryz.prog 116 #[.int .u8 a] w fun e w'=>e= .returned (.bool (CV a))∧w=w':=by
 by_cases h1:1≤a
 ·go_enter Tryz.func116,Tryz.ntmps116
  go_wp2
  go_ret
  exact⟨by simp[CV,h1],rfl⟩
 ·go_enter Tryz.func116,Tryz.ntmps116
  go_wp2
  go_ret
  exact⟨by simp[CV];omega,rfl⟩
def DS:Value:= .agg #[.string ⟨#[]⟩,.string ⟨#[110,111,97,114,99,104]⟩,.string ⟨#[120,56,54,95,54,52]⟩,.string ⟨#[105,54,56,54]⟩,.string ⟨#[97,97,114,99,104,54,52]⟩]
theorem Lb (w:World):Calls Tryz.prog 117 #[] w fun e w'=>e= .returned DS∧Below w.heap.size w w':=by
 go_enter Tryz.func117,Tryz.ntmps117
 go_wp2
 exact bodyPost_ret (v:=DS) (by simp[results,Tryz.results117,go_sem,DS]) rfl ⟨rfl,(Below.refl _ _).alloc (Nat.le_refl _) _⟩
theorem Pi (w:World):(Instr.index 158 DS (.int .u8 1)).run Tryz.prog w= .ok (.string ⟨#[110,111,97,114,99,104]⟩) w:=by kernel_rfl
theorem Ph (w:World):(Instr.index 158 DS (.int .u8 2)).run Tryz.prog w= .ok (.string ⟨#[120,56,54,95,54,52]⟩) w:=by kernel_rfl
theorem Pg (w:World):(Instr.index 158 DS (.int .u8 3)).run Tryz.prog w= .ok (.string ⟨#[105,54,56,54]⟩) w:=by kernel_rfl
theorem Pf (w:World):(Instr.index 158 DS (.int .u8 4)).run Tryz.prog w= .ok (.string ⟨#[97,97,114,99,104,54,52]⟩) w:=by kernel_rfl
theorem NH (a:Int) (h:CV a=true) (w:World):(Instr.index 158 DS (.int .u8 a)).run Tryz.prog w= .ok (.string (DH a)) w:=by
 rcases Fi h with rfl|rfl|rfl|rfl
 ·exact Pi w
 ·exact Ph w
 ·exact Pg w
 ·exact Pf w
theorem M4 (a:Int) (w:World):Calls Tryz.prog 72 #[.int .u8 a] w fun e w'=>e= .returned (.string (DH a))∧Below w.heap.size w w':=by
 have HI:=Hd (PX a)
 cases h:CV a with
 |false=>
  obtain⟨h1,h2,h3,h4⟩:=GS h
  have hs:DH a=⟨#[]⟩:=by
   unfold DH
   rw[if_neg h1,if_neg h2,if_neg h3,if_neg h4]
  rw[hs]
  rw[h]at HI
  clear h1 h2 h3 h4 hs h
  go_enter Tryz.func72,Tryz.ntmps72
  go_wp2_with (go_at_call 116;refine(HI.out _).mono ?_;rintro e w' ⟨rfl,rfl⟩)
  go_ret
  exact⟨rfl,Below.refl _ _⟩
 |true=>
  have hi:=NH a h
  rw[h]at HI
  clear h
  go_enter Tryz.func72,Tryz.ntmps72
  go_wp2_with (first|(go_at_call 116;refine(HI.out _).mono ?_;rintro e w' ⟨rfl,rfl⟩)|(go_at_call 117;refine(Lb _).mono ?_;rintro e w1 ⟨rfl,hg⟩))
  go_wp2
  go_ret
  exact⟨rfl,hg⟩
theorem Kr (a:Int) (w:World):Calls Tryz.prog 93 #[.int .u8 a] w fun e w'=>e= .returned (.string (DH a))∧w=w':=by
 cases h:CV a with
 |false=>
  obtain⟨h1,h2,h3,h4⟩:=GS h
  have hs:DH a=⟨#[]⟩:=by
   unfold DH
   rw[if_neg h1,if_neg h2,if_neg h3,if_neg h4]
  rw[hs]
  have d1:(a==1)=false:=by simpa using h1
  have d2:(a==2)=false:=by simpa using h2
  have d3:(a==3)=false:=by simpa using h3
  have d4:(a==4)=false:=by simpa using h4
  clear h1 h2 h3 h4 hs h
  go_enter Tryz.func93,Tryz.ntmps93
  go_wp2
  go_ret
  exact⟨rfl,rfl⟩
 |true=>
  rcases Fi h with rfl|rfl|rfl|rfl
  all_goals
   go_enter Tryz.func93,Tryz.ntmps93
   go_wp2
   go_ret
   exact⟨rfl,rfl⟩
theorem Fx (W0:World) (l:List Ax) (vl:Value) (hl:LIn AW Ai W0 l vl) (w:World) (hB:Below W0.heap.size W0 w):
 Calls Tryz.prog 94 #[vl] w fun e w'=>e= .returned (.bool (decide (l.length≤32) && l.all fun x=>Ca x))∧Below w.heap.size w w':=by
 obtain⟨a,c,rfl⟩:=hl.form
 have hn:=hl.bound
 have HL:=Hd hl
 have HBW:=Hd hB
 have HB0:=Hd (Below.refl w.heap.size w)
 have HO:=Hd (show∀x∈l,∀(r:AW.R) (w':World),AW.holds Ai W0 x r→Below w.heap.size w w'→Calls Tryz.prog 146 #[x.val] w' fun e w''=>e= .returned (.bool (Ca x))∧Below w'.heap.size w' w'' from by
  intro x hx r w' hh hw'
  exact Fs x w' hh.1)
 obtain⟨T,hT⟩:∃T,T=(decide (l.length≤32) && l.all fun x=>Ca x):=⟨_,rfl⟩
 rw[←hT]
 by_cases hle:l.length≤32
 ·rw[decide_eq_true hle,Bool.true_and]at hT
  have HT:=Hd hT
  have h1:decide ((32:Int)<(l.length:Int))=false:=by rw[decide_eq_false];omega
  have h2:(l.length:Int)≤32:=by omega
  clear hl hB hT
  go_enter Tryz.func94,Tryz.ntmps94
  go_wp2_with fail
  go_loopw [3] (fun i wr=>∃k:Nat,k≤l.length∧i= .int .i64 k∧Hid ((l.take k).all (fun x=>Ca x)=true∧Below w.heap.size w wr)) (fun i wr=>l.length-(intOf i).toNat)
  case atStart=>exact⟨0,by omega,rfl,Hd ⟨rfl,HB0.out⟩⟩
  case round=>
   obtain⟨k,hk,rfl,HQ⟩:=hrel
   by_cases hlt:k<l.length
   ·have hki:(k:Int)<(l.length:Int):=by omega
    obtain⟨b,o,r,ha,_,hcs0,hh⟩:=HL.out.at_ k hlt
    obtain⟨x,hx⟩:∃x,x=l[k]:=⟨_,rfl⟩
    have HX:=Hd (show l.take (k+1)=l.take k++ [x]from by rw[hx];exact List.take_succ_eq_append_getElem hlt)
    have hmem:x∈l:=by rw[hx];exact List.getElem_mem _
    have HMem:=Hd hmem
    rw[←hx]at hcs0 hh
    subst ha
    dsimp only[AW]at hcs0 r
    have hcs:=hcs0.same ((HBW.out.trans (HQ.out.2.mono HBW.out.size)).block b hcs0.1) (HBW.out.trans (HQ.out.2.mono HBW.out.size)).size
    have e0:wr.cell? ⟨b,o+k*5,none⟩=some (.string x.name):=hcs.2 0 (show 0<5 by omega)
    have e1:wr.cell? ⟨b,o+k*5+1,none⟩=some (.int .u8 x.op):=hcs.2 1 (show 1<5 by omega)
    have e2:wr.cell? ⟨b,o+k*5+2,none⟩=some (.int .i64 x.ep):=hcs.2 2 (show 2<5 by omega)
    have e3:wr.cell? ⟨b,o+k*5+3,none⟩=some (.string x.ver):=hcs.2 3 (show 3<5 by omega)
    have e4:wr.cell? ⟨b,o+k*5+4,none⟩=some (.string x.rel):=hcs.2 4 (show 4<5 by omega)
    have eb:b<wr.heap.size:=hcs.1
    have HM:=Hd (HO.out x hmem _ wr hh HQ.out.2)
    obtain⟨pb,hpb⟩:∃pb,pb=Ca x:=⟨_,rfl⟩
    rw[←hpb]at HM
    have HPb:=Hd hpb
    clear hcs hcs0 hh hx hmem hpb
    cases pb with
    |true=>
     go_wp2_with (first
      |(go_at_call 146;(with_reducible refine HM.out.mono ?_);rintro e w2 ⟨rfl,HBc⟩;have HB2:=Hd (HQ.out.2.trans (HBc.mono HQ.out.2.size));clear HBc)
      |fail)
     go_roundw
     case rel=>exact⟨k+1,by omega,by go_num,Hd ⟨by rw[HX.out,List.all_append,HQ.out.1];simp[←HPb.out],HB2.out⟩⟩
     case measure=>simp[intOf];omega
    |false=>
     have HT2:=Hd (show T=false from HT.out.trans (List.all_eq_false.2 ⟨x,HMem.out,by rw[←HPb.out];decide⟩))
     go_wp2_with (first
      |(go_at_call 146;(with_reducible refine HM.out.mono ?_);rintro e w2 ⟨rfl,HBc⟩;have HB2:=Hd (HQ.out.2.trans (HBc.mono HQ.out.2.size));clear HBc)
      |fail)
     go_ret
     exact⟨Af HT2.out.symm,HB2.out⟩
   ·obtain rfl:k=l.length:=by omega
    have HT2:=Hd (show T=true from by have:=HQ.out.1;rw[List.take_length]at this;exact HT.out.trans this)
    go_wp2_with fail
    go_ret
    exact⟨Af HT2.out.symm,HQ.out.2⟩
 ·rw[decide_eq_false hle,Bool.false_and]at hT
  subst hT
  have h1:decide ((32:Int)<(l.length:Int))=true:=by rw[decide_eq_true];omega
  have h2:(32:Int)<(l.length:Int):=by omega
  clear hl hB hle
  go_enter Tryz.func94,Tryz.ntmps94
  go_wp2_with fail
  go_ret
  exact⟨rfl,HB0.out⟩
theorem BK (W0:World) (l:List Ac) (vl:Value) (hl:LIn Aj Ai W0 l vl) (wh:Int) (hwh:0≤wh∧wh<256) (w:World) (hB:Below W0.heap.size W0 w) (hc:∀x∈l,x.count≤4611686018427387904):
 Calls Tryz.prog 95 #[vl,.int .u8 wh] w fun e w'=>e= .returned (.bool (decide (l.length≤32) && l.all fun x=>decide (CS x wh=0)))∧Below w.heap.size w w':=by
 obtain⟨a,c,rfl⟩:=hl.form
 have hn:=hl.bound
 have HL:=Hd hl
 have HBW:=Hd hB
 have HB0:=Hd (Below.refl w.heap.size w)
 have HO:=Hd (show∀x∈l,∀(r:Aj.R) (w':World),Aj.holds Ai W0 x r→Below w.heap.size w w'→Calls Tryz.prog 147 #[x.val r,.int .u8 wh] w' fun e w''=>e= .returned (.int .i64 (CS x wh))∧Below w'.heap.size w' w'' from by
  intro x hx r w' hh hw'
  exact Nk W0 x r (AZ.is hh) w' (hB.trans (hw'.mono hB.size)) (hc x hx) wh hwh)
 obtain⟨T,hT⟩:∃T,T=(decide (l.length≤32) && l.all fun x=>decide (CS x wh=0)):=⟨_,rfl⟩
 rw[←hT]
 by_cases hle:l.length≤32
 ·rw[decide_eq_true hle,Bool.true_and]at hT
  have HT:=Hd hT
  have h1:decide ((32:Int)<(l.length:Int))=false:=by rw[decide_eq_false];omega
  have h2:(l.length:Int)≤32:=by omega
  clear hl hB hT hc
  go_enter Tryz.func95,Tryz.ntmps95
  go_wp2_with fail
  go_loopw [5] (fun i wr=>∃k:Nat,k≤l.length∧i= .int .i64 k∧Hid ((l.take k).all (fun x=>decide (CS x wh=0))=true∧Below w.heap.size w wr)) (fun i wr=>l.length-(intOf i).toNat)
  case atStart=>exact⟨0,by omega,rfl,Hd ⟨rfl,HB0.out⟩⟩
  case round=>
   obtain⟨k,hk,rfl,HQ⟩:=hrel
   by_cases hlt:k<l.length
   ·have hki:(k:Int)<(l.length:Int):=by omega
    obtain⟨b,o,r,ha,_,hcs0,hh⟩:=HL.out.at_ k hlt
    obtain⟨x,hx⟩:∃x,x=l[k]:=⟨_,rfl⟩
    have HX:=Hd (show l.take (k+1)=l.take k++ [x]from by rw[hx];exact List.take_succ_eq_append_getElem hlt)
    have hmem:x∈l:=by rw[hx];exact List.getElem_mem _
    have HMem:=Hd hmem
    rw[←hx]at hcs0 hh
    subst ha
    dsimp only[Aj]at hcs0 r
    have hcs:=hcs0.same ((HBW.out.trans (HQ.out.2.mono HBW.out.size)).block b hcs0.1) (HBW.out.trans (HQ.out.2.mono HBW.out.size)).size
    have e0:wr.cell? ⟨b,o+k*7,none⟩=some (.int .u8 x.kind):=hcs.2 0 (show 0<7 by omega)
    have e1:wr.cell? ⟨b,o+k*7+1,none⟩=some (.string x.dep.name):=hcs.2 1 (show 1<7 by omega)
    have e2:wr.cell? ⟨b,o+k*7+2,none⟩=some (.int .u8 x.dep.op):=hcs.2 2 (show 2<7 by omega)
    have e3:wr.cell? ⟨b,o+k*7+3,none⟩=some (.int .i64 x.dep.ep):=hcs.2 3 (show 3<7 by omega)
    have e4:wr.cell? ⟨b,o+k*7+4,none⟩=some (.string x.dep.ver):=hcs.2 4 (show 4<7 by omega)
    have e5:wr.cell? ⟨b,o+k*7+5,none⟩=some (.string x.dep.rel):=hcs.2 5 (show 5<7 by omega)
    have e6:wr.cell? ⟨b,o+k*7+6,none⟩=some (r):=hcs.2 6 (show 6<7 by omega)
    have eb:b<wr.heap.size:=hcs.1
    have HM:=Hd (HO.out x hmem _ wr hh HQ.out.2)
    obtain⟨m,hm⟩:∃m,m=CS x wh:=⟨_,rfl⟩
    rw[←hm]at HM
    have HMm:=Hd hm
    clear hcs hcs0 hh hx hmem hm
    by_cases hm0:m=0
    ·subst hm0
     go_wp2_with (first
      |(go_at_call 147;(with_reducible refine HM.out.mono ?_);rintro e w2 ⟨rfl,HBc⟩;have HB2:=Hd (HQ.out.2.trans (HBc.mono HQ.out.2.size));clear HBc)
      |fail)
     go_roundw
     case rel=>exact⟨k+1,by omega,by go_num,Hd ⟨by rw[HX.out,List.all_append,HQ.out.1];simp[←HMm.out],HB2.out⟩⟩
     case measure=>simp[intOf];omega
    ·have hmd:(m==0)=false:=by simpa using hm0
     have hmd2:(m !=0)=true:=by simp[bne,hmd]
     have HT2:=Hd (show T=false from HT.out.trans (List.all_eq_false.2 ⟨x,HMem.out,by rw[←HMm.out];simpa using hm0⟩))
     clear hm0
     go_wp2_with (first
      |(go_at_call 147;(with_reducible refine HM.out.mono ?_);rintro e w2 ⟨rfl,HBc⟩;have HB2:=Hd (HQ.out.2.trans (HBc.mono HQ.out.2.size));clear HBc)
      |fail)
     go_ret
     exact⟨Af HT2.out.symm,HB2.out⟩
   ·obtain rfl:k=l.length:=by omega
    have HT2:=Hd (show T=true from by have:=HQ.out.1;rw[List.take_length]at this;exact HT.out.trans this)
    go_wp2_with fail
    go_ret
    exact⟨Af HT2.out.symm,HQ.out.2⟩
 ·rw[decide_eq_false hle,Bool.false_and]at hT
  subst hT
  have h1:decide ((32:Int)<(l.length:Int))=true:=by rw[decide_eq_true];omega
  have h2:(32:Int)<(l.length:Int):=by omega
  clear hl hB hle hc
  go_enter Tryz.func95,Tryz.ntmps95
  go_wp2_with fail
  go_ret
  exact⟨rfl,HB0.out⟩
end Go.Proofs.YtdpjjnbelgaagaaGreatDoor
