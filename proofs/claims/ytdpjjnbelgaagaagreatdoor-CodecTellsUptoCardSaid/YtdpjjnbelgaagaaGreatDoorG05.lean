/- Contracts of package wire: the reader's number. -/
import Derived.Test.YtdpjjnbelgaagaaGreatDoorG04
import Derived.Deep.QuietTactic
import Derived.Defers
import Derived.Recover
namespace Go.Proofs.YtdpjjnbelgaagaaGreatDoor
set_option maxHeartbeats 32000000
open Go.ChangeShapes Go.WideShapes Go.ChangeAt Go.RowKit
set_option maxRecDepth 100000
def BC (s:ByteArray) (i:Nat):Nat:=(s.data.toList.getD i 0).toNat
theorem Fg (s:ByteArray) (i:Nat):BC s i<256:=(s.data.toList.getD i 0).toNat_lt
def rdN (s:ByteArray) (at_:Nat) (lo hi:Int):Nat→Nat→Nat→Sum (Nat×Nat) Int
 |0,_,_=> .inr 20
 |f+1,i,n=>
  if s.size≤at_+i then .inr 8
  else if 128≤BC s (at_+i)then rdN s at_ lo hi f (i+1) (n+BC s (at_+i)%128*128^i)
  else if 0<i∧BC s (at_+i)=0 then .inr 11
  else if ((n+BC s (at_+i)%128*128^i:Nat):Int)<lo∨hi<((n+BC s (at_+i)%128*128^i:Nat):Int)then .inr 20
  else .inl (n+BC s (at_+i)%128*128^i,i+1)
theorem JE (s:ByteArray) (i:Nat) (h:i<s.size) (W:World):(Instr.index 9 (.string s) (.int .i64 (i:Int))).run Tryz.prog W= .ok (.int .u8 (BC s i:Nat)) W:=by
 have hg:s[i]?=some (s.data.toList.getD i 0):=by
  rw[getElem?_pos s i h]
  congr 1
  have h2:i<s.data.size:=h
  simp only[List.getD,Array.getElem?_toList,Array.getElem?_eq_getElem h2]
  rfl
 simp[Instr.index,asIntOf,run_underlying Tryz.underlying9,BC,hg]
theorem FE (a:Nat) (ha:a<9223372036854775808):(BitVec.ofInt 64 (a:Int)).toNat=a:=by
 rw[BitVec.ofInt_natCast,BitVec.toNat_ofNat];exact Nat.mod_eq_of_lt (by omega)
theorem Qq (a b:Nat) (ha:a<9223372036854775808) (hb:b<9223372036854775808):bits .or .i64 (a:Int) (b:Int)=((a|||b:Nat):Int):=by
 have hx:a|||b<2^63:=Nat.or_lt_two_pow (by omega) (by omega)
 show IntKind.i64.wrap ((BitVec.ofInt 64 (a:Int)|||BitVec.ofInt 64 (b:Int)).toNat:Int)=_
 rw[BitVec.toNat_or,FE a ha,FE b hb,IntKind.wrap_i64]
 omega
theorem Ix (i:Nat) (h:i<9):128^i≤72057594037927936:=by
 have:128^i≤128^8:=Nat.pow_le_pow_right (by omega) (by omega)
 simpa using this
theorem LW (n b i:Nat) (hb:b<256) (hi:i<9) (hn:n<128^i):bits BinOp.or IntKind.i64 (n:Int) (wrap64 (wrap64 (bits BinOp.and IntKind.u8 (b:Int) 127)*2^(7*i)))=((n+b%128*128^i:Nat):Int)∧n+b%128*128^i<128^(i+1):=by
 have h1:bits BinOp.and IntKind.u8 (b:Int) 127=((b%128:Nat):Int):=by
  rw[show(127:Int)=((127:Nat):Int)from rfl,u8_and_nat b 127 hb (by omega)]
  congr 1
  exact Nat.and_two_pow_sub_one_eq_mod b 7
 have hp:=Ix i hi
 have e2:(2:Int)^(7*i)=((128^i:Nat):Int):=by
  rw[Int.pow_mul]
  simp
 have hm:b%128*128^i≤127*72057594037927936:=Nat.mul_le_mul (by omega) hp
 have hx:n+b%128*128^i<128^(i+1):=by
  have:b%128*128^i≤127*128^i:=Nat.mul_le_mul_right _ (by omega)
  rw[Nat.pow_succ]
  omega
 refine⟨?_,hx⟩
 have e1:wrap64 ((b%128:Nat):Int)=((b%128:Nat):Int):=by unfold wrap64;omega
 have e3:wrap64 ((b%128*128^i:Nat):Int)=((b%128*128^i:Nat):Int):=by unfold wrap64;omega
 rw[h1,e1,e2,←Int.natCast_mul,e3,Qq _ _ (by omega) (by omega)]
 congr 1
 rw[Nat.or_comm,nat_join (7*i) _ n ?_ ?_,Nat.add_comm]
 ·rw[Nat.pow_mul]
  exact Nat.mul_mod_left _ _
 ·rw[Nat.pow_mul]
  exact hn
def QG (g:Nat) (s:ByteArray) (at_:Nat) (w:World):Sum (Nat×Nat) Int→Ending→World→Prop
 | .inl (n,k),e,w'=>e= .returned (.int .i64 n)∧Blk w' g 135 #[.string s,.int .i64 ((at_+k:Nat):Int),.int .i64 0]∧Ae (·=g) w w'
 | .inr x,e,w'=>e= .panicked [{v:= .iface 195 (.agg #[.int .i64 at_,.int .i64 x]),recovered:=false}]∧Blk w' g 135 #[.string s,.int .i64 at_,.int .i64 0]∧Ae (·=g) w w'
theorem FB (g:Nat) (s:ByteArray) (at_:Nat) (lo hi:Int) (w:World) (hb:Blk w g 135 #[.string s,.int .i64 at_,.int .i64 0]) (hat:at_≤s.size) (hs:s.size≤140737488351232):
 Calls Tryz.prog 131 #[.pointer (some ⟨g,0,none⟩),.int .i64 lo,.int .i64 hi] w (QG g s at_ w (rdN s at_ lo hi 9 0 0)):=by
 have hc0:=hb.cell 0
 have hc1:=hb.cell 1
 have hf1:=hb.frozen 1
 simp at hc0 hc1
 go_enter Tryz.func131,Tryz.ntmps131
 go_wp2_with fail
 go_loopw [7,10] (fun x y wr=>∃(i n:Nat),i≤9∧y= .int .i64 i∧x= .int .i64 n∧n<128^i∧rdN s at_ lo hi (9-i) i n=rdN s at_ lo hi 9 0 0∧∃q,wr=w.drewN q) (fun _ y _=>9-(intOf y).toNat)
 case atStart=>exact⟨0,0,by omega,rfl,rfl,by simp,rfl,0,rfl⟩
 case round=>
  obtain⟨i,n,hi9,rfl,rfl,hn,hres,q,rfl⟩:=hrel
  have HR:=Hd hres
  clear hres
  by_cases hlt:i<9
  ·have HS:Hid (rdN s at_ lo hi (9-i) i n=_):=Hd (by rw[show 9-i=(8-i)+1 from by omega,rdN])
   by_cases h8:s.size≤at_+i
   ·go_wp2_with fail
    go_quiet (fail)
    go_wp2_with fail
    refine⟨rfl,?_⟩
    rw[←HR.out,HS.out,if_pos h8]
    exact⟨rfl,hb.drewN _,(Ae.refl _ _).drewN _⟩
   ·have hwr:IntKind.i64.wrap ((at_:Int)+(i:Int))=(at_:Int)+(i:Int):=by rw[IntKind.wrap_i64];omega
    have hix:=JE s (at_+i) (by omega)
    rw[Int.natCast_add]at hix
    have hb256:=Fg s (at_+i)
    obtain⟨hv,hn2⟩:=LW n (BC s (at_+i)) i hb256 hlt hn
    have HS2:Hid (rdN s at_ lo hi (9-i) i n=_):=Hd (HS.out.trans (if_neg h8))
    clear HS
    generalize BC s (at_+i)=b at*
    generalize n+b%128*128^i=m at*
    by_cases hb128:128≤b
    ·have hbi:(128:Int)≤(b:Int):=by omega
     go_wp2_with fail
     go_quiet (fail)
     go_wp2_with fail
     go_quiet (fail)
     go_wp2_with fail
     go_roundw
     case rel=>
      refine⟨i+1,m,by omega,by go_num,rfl,hn2,?_,_,rfl⟩
      rw[←HR.out,HS2.out,if_pos hb128,show 9-(i+1)=8-i from by omega]
     case measure=>simp[intOf];omega
    ·have hbi:(b:Int)<128:=by omega
     have HS3:Hid (rdN s at_ lo hi (9-i) i n=_):=Hd (HS2.out.trans (if_neg hb128))
     clear HS2
     by_cases hw0:0<i∧b=0
     ·obtain⟨hi0,hb0⟩:=hw0
      have hi0':(0:Int)<(i:Int):=by omega
      have hbb:((b:Int)==0)=true:=by simpa using hb0
      go_wp2_with fail
      go_quiet (fail)
      go_wp2_with fail
      go_quiet (fail)
      go_wp2_with fail
      refine⟨rfl,?_⟩
      rw[←HR.out,HS3.out,if_pos ⟨hi0,hb0⟩]
      exact⟨rfl,hb.drewN _,(Ae.refl _ _).drewN _⟩
     ·have HS4:Hid (rdN s at_ lo hi (9-i) i n=_):=Hd (HS3.out.trans (if_neg hw0))
      clear HS3
      have hcase:(decide (0<i)=false)∨((0:Int)<(i:Int)∧((b:Int)==0)=false):=by
       by_cases h:0<i
       ·exact .inr ⟨by omega,by simp;omega⟩
       ·exact .inl (by simp;omega)
      clear hw0
      rcases hcase with hz|⟨hz,hz2⟩
      all_goals
       by_cases hlo:(m:Int)<lo
       ·go_wp2_with fail
        go_quiet (fail)
        go_wp2_with fail
        go_quiet (fail)
        go_wp2_with fail
        refine⟨rfl,?_⟩
        rw[←HR.out,HS4.out,if_pos (.inl hlo)]
        exact⟨rfl,hb.drewN _,(Ae.refl _ _).drewN _⟩
       ·by_cases hhi:hi<(m:Int)
        ·have hlo':decide ((m:Int)<lo)=false:=by simpa using hlo
         go_wp2_with fail
         go_quiet (fail)
         go_wp2_with fail
         go_quiet (fail)
         go_wp2_with fail
         refine⟨rfl,?_⟩
         rw[←HR.out,HS4.out,if_pos (.inr hhi)]
         exact⟨rfl,hb.drewN _,(Ae.refl _ _).drewN _⟩
        ·have hlo':decide ((m:Int)<lo)=false:=by simpa using hlo
         have hhi':decide (hi<(m:Int))=false:=by simpa using hhi
         go_wp2_with fail
         go_quiet (fail)
         go_wp2_with fail
         go_quiet (fail)
         go_wp2_with fail
         go_ret
         rw[←HR.out,HS4.out,if_neg (by omega)]
         refine⟨rfl,?_,Ae.setCell (F:=fun x=>x=g) ((Ae.refl _ _).drewN _) (p:=⟨g,1,none⟩) (fun _=>rfl) _⟩
         have h:=(hb.drewN (q+0)).set_ 1 (.int .i64 ((at_+(i+1):Nat):Int))
         rw[Int.natCast_add]at h ⊢
         exact h
  ·obtain rfl:i=9:=by omega
   go_wp2_with fail
   refine⟨rfl,?_⟩
   rw[←HR.out]
   exact⟨rfl,hb.drewN _,(Ae.refl _ _).drewN _⟩
theorem FJ (g:Nat) (w:World):
 CallsD Tryz.prog 130 #[.pointer (some ⟨g,0,none⟩)] .returning w fun e u' w'=>e= .returned (.tuple #[])∧u'= .returning∧w'=w:=by
 refine callsD_of_wpS Tryz.func130 rfl fun c₀ cs hu=> ?_
 apply wpS_seq
 apply wpS_region
 simp[wpOpsS,go_sem,recoverD,hu,Tryz.ntmps130,Exit.thenS]
 apply wpS_seq
 apply wpS_region
 simp[wpOpsS,go_sem,Exit.thenS]
 refine wpS_cond (t:=false) (by simp[Act.eval]) ?_
 simp only[Bool.false_eq_true,if_false]
 refine wpS_of_wp (wp_skip ?_)
 cases c₀
 simp_all [bodyPostS,results,Tryz.results130]
theorem IT (g:Nat) (v:Value):(#[Value.pointer (some ⟨g,0,none⟩)]++((((Array.replicate 25 undef).setIfInBounds 4 v).setIfInBounds 1 v).setIfInBounds 5 v).setIfInBounds 6 (Value.bool true))=
 #[.pointer (some ⟨g,0,none⟩),undef,v,undef,undef,v,v,.bool true,undef,undef,undef,undef,undef,undef,undef,undef,undef,undef,undef,undef,undef,undef,undef,undef,undef,undef]:=by kernel_rfl
theorem CM (g:Nat) (a x:Int) (older:List PanicEntry) (s:ByteArray) (at_:Int) (w:World) (hb:Blk w g 135 #[.string s,.int .i64 at_,.int .i64 0]):
 CallsD Tryz.prog 130 #[.pointer (some ⟨g,0,none⟩)] (.panicking ({v:= .iface 195 (.agg #[.int .i64 a,.int .i64 x]),recovered:=false}::older)) w fun e u' w'=>
  e= .returned (.tuple #[])∧u'= .panicking ({v:= .iface 195 (.agg #[.int .i64 a,.int .i64 x]),recovered:=true}::older)∧Blk w' g 135 #[.string s,.int .i64 a,.int .i64 x]∧Ae (·=g) w w':=by
 refine callsD_of_wpS Tryz.func130 rfl fun c₀ cs hu=> ?_
 apply wpS_seq
 apply wpS_region
 simp[wpOpsS,go_sem,recoverD,hu,Tryz.ntmps130,Exit.thenS]
 have hc:=hb.cell 0
 have hc1:=hb.cell 1
 have hc2:=hb.cell 2
 have hf1:=hb.frozen 1
 have hf2:=hb.frozen 2
 simp at hc hc1 hc2
 have hgl:=hb.lt
 have hne:¬g=w.heap.size:=by omega
 have hne':¬w.heap.size=g:=by omega
 apply wpS_seq
 apply wpS_region
 simp[wpOpsS,go_sem,Exit.thenS]
 refine wpS_cond (t:=true) (by simp[Act.eval]) ?_
 simp only[if_true]
 refine wpS_of_wp (Code.wp_mono (Q:=fun e a' w'=>e=Exit.normal∧a'.defers= []∧Blk w' g 135 #[.string s,.int .i64 a,.int .i64 x]∧Ae (·=g) w w') ?_ ?_)
 ·rintro e a1 w1 ⟨rfl,hd,h1,h2⟩
  simp[bodyPostS,results,Tryz.results130,hd]
  exact⟨h1,h2⟩
 have hta:∀w,(Instr.typeAssert (.iface 195 (.agg #[.int .i64 a,.int .i64 x])) 20 195 true).run Tryz.prog w= .ok (.tuple #[.agg #[.int .i64 a,.int .i64 x],.bool true]) w:=fun _=>by kernel_rfl
 rw[IT]
 go_wp2_with fail
 go_region
 refine⟨rfl,rfl,?_,?_⟩
 ·exact(((hb.set_ 1 (.int .i64 a)).set_ 2 (.int .i64 x)).alloc (.cells #[.int .i64 a,.int .i64 x] 195)).drew
 ·exact((((Ae.refl (fun x=>x=g) w).setCell (p:=⟨g,1,none⟩) (fun _=>rfl) _).setCell (p:=⟨g,2,none⟩) (fun _=>rfl) _).alloc _).drew
def CA (s:ByteArray) (at_:Nat) (e:Int) (lo hi:Int):Int×Nat×Int:=
 if e=0 then match rdN s at_ lo hi 9 0 0 with
  | .inl (n,k)=>(n,at_+k,0)
  | .inr x=>(0,at_,x)
 else(0,at_,e)
def RB (s:ByteArray) (at_:Nat) (e:Int):Array Value:= #[.string s,.int .i64 (at_:Int),.int .i64 e]
theorem Nj (g:Nat) (s:ByteArray) (at_:Nat) (e lo hi:Int) (w:World) (hb:Blk w g 135 (RB s at_ e)) (hat:at_≤s.size) (hs:s.size≤140737488351232):
 Calls Tryz.prog 83 #[.pointer (some ⟨g,0,none⟩),.int .i64 lo,.int .i64 hi] w fun r w'=>r= .returned (.int .i64 (CA s at_ e lo hi).1)∧Blk w' g 135 (RB s (CA s at_ e lo hi).2.1 (CA s at_ e lo hi).2.2)∧Ae (·=g) w w':=by
 have hc2:=hb.cell 2
 simp[RB]at hc2
 unfold CA
 by_cases he:e=0
 ·subst he
  rw[if_pos rfl]
  have HN:=Hd (FB g s at_ lo hi w hb hat hs)
  generalize rdN s at_ lo hi 9 0 0=res at*
  go_enter_defers Tryz.func83,Tryz.ntmps83
  go_wp2_with fail
  refine HN.out.mono ?_
  cases res with
  |inl p=>
   obtain⟨n,k⟩:=p
   rintro r w1 ⟨rfl,hb1,ht1⟩
   go_wp2_with fail
   refine leaves_cons (f:=130) (args:= #[.pointer (some ⟨g,0,none⟩)]) (by simp) (by simp[go_sem]) ?_
   refine(FJ g _).mono ?_
   rintro e u' w'' ⟨rfl,rfl,rfl⟩
   simp[Leaves,settle,results,Tryz.results83,go_sem,RB]
   exact⟨hb1,ht1⟩
  |inr x=>
   rintro r w1 ⟨rfl,hb1,ht1⟩
   go_wp2_with fail
   refine leaves_cons (f:=130) (args:= #[.pointer (some ⟨g,0,none⟩)]) (by simp) (by simp[go_sem]) ?_
   refine(CM g at_ x [] s at_ _ hb1).mono ?_
   rintro e u' w'' ⟨rfl,rfl,hb2,ht2⟩
   simp[Leaves,settle,results,Tryz.results83,go_sem,RB]
   exact⟨hb2,ht1.trans ht2 (fun _ _ h=>h)⟩
 ·rw[if_neg he]
  have hne:(e==0)=false:=by simpa using he
  have hne':(e !=0)=true:=by simp[bne,he]
  go_enter_defers Tryz.func83,Tryz.ntmps83
  go_wp2_with fail
  simp[bodyPostD,Leaves,results,Tryz.results83,go_sem]
  exact⟨hb,.refl _ _⟩
theorem DQ (s:ByteArray) (at_:Nat) (lo hi:Int):∀f i n (m k:Nat),i+f=9→n<128^i→rdN s at_ lo hi f i n= .inl (m,k)→at_+k≤s.size∧i<k∧k≤9∧m<9223372036854775808∧lo≤m∧(m:Int)≤hi:=by
 intro f
 induction f with
 |zero=>intro i n m k _ _ h;simp[rdN]at h
 |succ f ih=>
  intro i n m k hi9 hn h
  rw[rdN]at h
  obtain⟨_,hv⟩:=LW n (BC s (at_+i)) i (Fg _ _) (by omega) hn
  split at h
  ·simp at h
  ·split at h
   ·obtain⟨a,b,c⟩:=ih _ _ _ _ (by omega) hv h
    exact⟨a,by omega,c⟩
   ·split at h
    ·simp at h
    ·split at h
     ·simp at h
     ·simp at h
      obtain⟨rfl,rfl⟩:=h
      have hp:128^(i+1)≤128^9:=Nat.pow_le_pow_right (by omega) (by omega)
      refine⟨by omega,by omega,by omega,?_,by omega,by omega⟩
      exact Nat.lt_of_lt_of_le hv (by simpa using hp)
def Cx (s:ByteArray) (at_:Nat) (e most:Int):ByteArray×Nat×Int:=
 if e=0 then match rdN s at_ 0 most 9 0 0 with
  | .inl (n,k)=>if s.size<at_+k+n then(⟨#[]⟩,at_+k,8)else(s.extract (at_+k) (at_+k+n),at_+k+n,0)
  | .inr x=>(⟨#[]⟩,at_,x)
 else(⟨#[]⟩,at_,e)
theorem Mb (g:Nat) (s:ByteArray) (at_:Nat) (e most:Int) (w:World) (hb:Blk w g 135 (RB s at_ e)) (hat:at_≤s.size) (hs:s.size≤140737488351232):
 Calls Tryz.prog 165 #[.pointer (some ⟨g,0,none⟩),.int .i64 most] w fun r w'=>r= .returned (.string (Cx s at_ e most).1)∧Blk w' g 135 (RB s (Cx s at_ e most).2.1 (Cx s at_ e most).2.2)∧Ae (·=g) w w':=by
 have hc2:=hb.cell 2
 simp[RB]at hc2
 generalize hT:Cx s at_ e most=T
 unfold Cx at hT
 by_cases he:e=0
 ·subst he
  rw[if_pos rfl]at hT
  have HN:=Hd (FB g s at_ 0 most w hb hat hs)
  have HI:=DQ s at_ 0 most 9 0 0
  generalize rdN s at_ 0 most 9 0 0=res at*
  go_enter_defers Tryz.func165,Tryz.ntmps165
  go_wp2_with fail
  refine HN.out.mono ?_
  cases res with
  |inl p=>
   obtain⟨n,k⟩:=p
   obtain⟨i1,_,i2,i3,_,i4⟩:=HI n k (by simp) (by simp) rfl
   clear HI
   rintro r w1 ⟨rfl,hb1,ht1⟩
   simp only at hb1 hT
   generalize at_+k=at2 at*
   have hc10:=hb1.cell 0
   have hc11:=hb1.cell 1
   have hf11:=hb1.frozen 1
   simp at hc10 hc11
   by_cases hsz:s.size<at2+n
   ·rw[if_pos hsz]at hT
    subst hT
    have hd:decide ((s.size:Int)-((at2:Nat):Int)<(n:Int))=true:=by simp;omega
    have hwr:IntKind.i64.wrap ((s.size:Int)-((at2:Nat):Int))=(s.size:Int)-((at2:Nat):Int):=by rw[IntKind.wrap_i64];omega
    go_wp2_with fail
    go_quiet (fail)
    go_wp2_with fail
    refine leaves_cons (f:=130) (args:= #[.pointer (some ⟨g,0,none⟩)]) (by simp) (by simp[go_sem]) ?_
    refine(CM g at2 8 [] s at2 _ (hb1.drewN _)).mono ?_
    rintro e u' w'' ⟨rfl,rfl,hb2,ht2⟩
    simp[Leaves,settle,results,Tryz.results165,go_sem,RB]
    exact⟨hb2,(ht1.drewN _).trans ht2 (fun _ _ h=>h)⟩
   ·have hd:decide ((s.size:Int)-((at2:Nat):Int)<(n:Int))=false:=by simp;omega
    rw[if_neg hsz]at hT
    subst hT
    have hwr:IntKind.i64.wrap ((s.size:Int)-((at2:Nat):Int))=(s.size:Int)-((at2:Nat):Int):=by rw[IntKind.wrap_i64];omega
    have hwr2:IntKind.i64.wrap ((at2:Int)+(n:Int))=(at2:Int)+(n:Int):=by rw[IntKind.wrap_i64];omega
    have hsl:∀W,(Instr.slice 9 (.string s) (some (.int .i64 (at2:Int))) (some (.int .i64 ((at2:Int)+(n:Int)))) none).run Tryz.prog W= .ok (.string (s.extract at2 (at2+n))) W:=fun W=>by
     rw[run_slice_string (h:=Tryz.underlying9) (h0:=by omega) (h1:=by omega) (h2:=by omega)]
     rfl
    go_wp2_with fail
    go_quiet (fail)
    go_wp2_with fail
    go_quiet (fail)
    go_wp2_with fail
    refine leaves_cons (f:=130) (args:= #[.pointer (some ⟨g,0,none⟩)]) (by simp) (by simp[go_sem]) ?_
    refine(FJ g _).mono ?_
    rintro e u' w'' ⟨rfl,rfl,rfl⟩
    simp[Leaves,settle,results,Tryz.results165,go_sem,RB]
    exact⟨(hb1.drewN _).set_ 1 _,Ae.setCell (F:=fun x=>x=g) (ht1.drewN _) (p:=⟨g,1,none⟩) (fun _=>rfl) _⟩
  |inr x=>
   rintro r w1 ⟨rfl,hb1,ht1⟩
   subst hT
   go_wp2_with fail
   refine leaves_cons (f:=130) (args:= #[.pointer (some ⟨g,0,none⟩)]) (by simp) (by simp[go_sem]) ?_
   refine(CM g at_ x [] s at_ _ hb1).mono ?_
   rintro e u' w'' ⟨rfl,rfl,hb2,ht2⟩
   simp[Leaves,settle,results,Tryz.results165,go_sem,RB]
   exact⟨hb2,ht1.trans ht2 (fun _ _ h=>h)⟩
 ·rw[if_neg he]at hT
  subst hT
  have hne:(e==0)=false:=by simpa using he
  have hne':(e !=0)=true:=by simp[bne,he]
  go_enter_defers Tryz.func165,Tryz.ntmps165
  go_wp2_with fail
  simp[bodyPostD,Leaves,results,Tryz.results165,go_sem]
  exact⟨hb,.refl _ _⟩
theorem OE (g:Nat) (s:ByteArray) (at_:Nat) (e:Int) (w:World) (hb:Blk w g 135 (RB s at_ e)):
 Calls Tryz.prog 132 #[.pointer (some ⟨g,0,none⟩)] w fun r w'=>r= .returned (.int .i64 at_)∧w=w':=by
 have hc1:=hb.cell 1
 simp[RB]at hc1
 go_enter Tryz.func132,Tryz.ntmps132
 go_wp2_with fail
 go_ret
 exact⟨rfl,rfl⟩
theorem G5 (g:Nat) (s:ByteArray) (at_:Nat) (e:Int) (w:World) (hb:Blk w g 135 (RB s at_ e)):
 Calls Tryz.prog 45 #[.pointer (some ⟨g,0,none⟩)] w fun r w'=>r= .returned (.tuple #[.int .i64 (if e=0 then 0 else at_),.int .i64 e])∧∃n,w'=w.drewN n:=by
 have hc1:=hb.cell 1
 have hc2:=hb.cell 2
 simp[RB]at hc1 hc2
 go_enter Tryz.func45,Tryz.ntmps45
 by_cases he:e=0
 ·subst he
  go_wp2_with fail
  simp[bodyPost,results,Tryz.results45,go_sem]
  exact⟨0,rfl⟩
 ·have hne:(e==0)=false:=by simpa using he
  rw[if_neg he]
  go_wp2_with fail
  go_quiet (fail)
  go_wp2_with fail
  simp[bodyPost,results,Tryz.results45,go_sem]
  exact⟨_,rfl⟩
def Fe (s:ByteArray) (at_:Nat) (e:Int):Int:=if e=0∧at_<s.size then 10 else e
theorem PA (g:Nat) (s:ByteArray) (at_:Nat) (e:Int) (w:World) (hb:Blk w g 135 (RB s at_ e)) (hat:at_≤s.size) (__hs:s.size≤140737488351232):
 Calls Tryz.prog 44 #[.pointer (some ⟨g,0,none⟩)] w fun r w'=>r= .returned (.int .i64 (Fe s at_ e))∧Blk w' g 135 (RB s at_ (Fe s at_ e))∧Ae (·=g) w w':=by
 have hc0:=hb.cell 0
 have hc1:=hb.cell 1
 have hc2:=hb.cell 2
 have hf2:=hb.frozen 2
 simp[RB]at hc0 hc1 hc2
 generalize hT:Fe s at_ e=T
 unfold Fe at hT
 go_enter Tryz.func44,Tryz.ntmps44
 by_cases he:e=0
 ·subst he
  by_cases hl:at_<s.size
  ·rw[if_pos ⟨rfl,hl⟩]at hT
   subst hT
   have hl':(at_:Int)<(s.size:Int):=by omega
   go_wp2_with fail
   go_quiet (fail)
   go_wp2_with fail
   go_ret
   exact⟨rfl,(hb.drewN _).set_ 2 _,Ae.setCell (F:=fun x=>x=g) ((Ae.refl _ _).drewN _) (p:=⟨g,2,none⟩) (fun _=>rfl) _⟩
  ·rw[if_neg (by omega)]at hT
   subst hT
   have hl':decide ((at_:Int)<(s.size:Int))=false:=by simp;omega
   go_wp2_with fail
   go_quiet (fail)
   go_wp2_with fail
   go_ret
   exact⟨rfl,hb.drewN _,(Ae.refl _ _).drewN _⟩
 ·have hne:(e==0)=false:=by simpa using he
  rw[if_neg (by omega)]at hT
  subst hT
  go_wp2_with fail
  go_quiet (fail)
  go_wp2_with fail
  go_ret
  exact⟨rfl,hb.drewN _,(Ae.refl _ _).drewN _⟩
def EQ (at_:Nat) (e p x:Int):Int×Nat×Int:=if e≠0 then(e,at_,e)else if p<0∨(at_:Int)<p∨x=0 then(1,at_,e)else(x,p.toNat,x)
theorem JP (g:Nat) (s:ByteArray) (at_:Nat) (e p x:Int) (w:World) (hb:Blk w g 135 (RB s at_ e)) (_hat:at_≤s.size) (_hs:s.size≤140737488351232):
 Calls Tryz.prog 138 #[.pointer (some ⟨g,0,none⟩),.int .i64 p,.int .i64 x] w fun r w'=>r= .returned (.int .i64 (EQ at_ e p x).1)∧Blk w' g 135 (RB s (EQ at_ e p x).2.1 (EQ at_ e p x).2.2)∧Ae (·=g) w w':=by
 have hc1:=hb.cell 1
 have hc2:=hb.cell 2
 have hf1:=hb.frozen 1
 have hf2:=hb.frozen 2
 simp[RB]at hc1 hc2
 generalize hT:EQ at_ e p x=T
 unfold EQ at hT
 go_enter Tryz.func138,Tryz.ntmps138
 by_cases he:e≠0
 ·have hne:(e==0)=false:=by simpa using he
  have hne':(e !=0)=true:=by simp[bne,he]
  rw[if_pos he]at hT
  subst hT
  go_wp2_with fail
  go_ret
  exact⟨rfl,hb,.refl _ _⟩
 ·rw[if_neg he]at hT
  obtain rfl:e=0:=by omega
  by_cases hp:p<0
  ·rw[if_pos (by omega)]at hT
   subst hT
   go_wp2_with fail
   go_ret
   exact⟨rfl,hb,.refl _ _⟩
  ·have hp':decide (p<0)=false:=by simpa using hp
   by_cases hp2:(at_:Int)<p
   ·rw[if_pos (by omega)]at hT
    subst hT
    go_wp2_with fail
    go_ret
    exact⟨rfl,hb,.refl _ _⟩
   ·have hp2':decide ((at_:Int)<p)=false:=by simpa using hp2
    by_cases hx:x=0
    ·subst hx
     rw[if_pos (by omega)]at hT
     subst hT
     go_wp2_with fail
     go_ret
     exact⟨rfl,hb,.refl _ _⟩
    ·have hx':(x==0)=false:=by simpa using hx
     rw[if_neg (by omega)]at hT
     subst hT
     go_wp2_with fail
     go_ret
     have hpn:((p.toNat:Nat):Int)=p:=by omega
     refine⟨rfl,?_,Ae.setCell (F:=fun x=>x=g) (Ae.setCell (F:=fun x=>x=g) (Ae.refl _ _) (p:=⟨g,1,none⟩) (fun _=>rfl) _) (p:=⟨g,2,none⟩) (fun _=>rfl) _⟩
     have h:=(hb.set_ 1 (.int .i64 p)).set_ 2 (.int .i64 x)
     simp[RB]at h
     show Blk _ g 135 #[.string s,.int .i64 ((p.toNat:Nat):Int),.int .i64 x]
     rw[hpn]
     exact h
theorem G1 (s:ByteArray) (w:World) (hs:s.size≤4194304):Calls Tryz.prog 40 #[.string s] w fun r w'=>r= .returned (.tuple #[.pointer (some ⟨w.heap.size,0,none⟩),.int .i64 0])∧Blk w' w.heap.size 135 (RB s 0 0)∧Below w.heap.size w w':=by
 go_enter Tryz.func40,Tryz.ntmps40
 have hd:decide ((4194304:Int)<(s.size:Int))=false:=by simp;omega
 go_wp2_with fail
 simp[bodyPost,results,Tryz.results40,go_sem]
 exact⟨Blk.new _ _ _,(Below.refl _ _).alloc (Nat.le_refl _) _⟩
theorem Gp (s:ByteArray) (w:World) (hs:4194304<s.size):Calls Tryz.prog 40 #[.string s] w fun r w'=>r= .returned (.tuple #[.pointer none,.int .i64 40])∧w=w':=by
 go_enter Tryz.func40,Tryz.ntmps40
 have hd:decide ((4194304:Int)<(s.size:Int))=true:=by simp;omega
 go_wp2_with fail
 simp[bodyPost,results,Tryz.results40,go_sem]
theorem Dv (s:ByteArray) (a b:Nat):(s.extract a b).data.toList=(s.data.toList.drop a).take (b-a):=by
 rw[ByteArray.data_extract,Array.toList_extract]
theorem QD {x y:ByteArray} (h:x.data.toList=y.data.toList):x=y:=by
 cases x;cases y
 simp at h
 rw[h]
abbrev emp:ByteArray:=⟨#[]⟩
structure Aq where
 name:ByteArray
 ep:Int
 ver:ByteArray
 rel:ByteArray
 arch:Int
 vendor:ByteArray
 prov:List Ax
 req:Ac
 con:Ac
 obs:List Ax
 reco:Ac
 sup:Ac
 sug:Ac
 enh:Ac
 files:List ByteArray
structure AK where
 prio:Int
 pkgs:List Aq
structure AA where
 repos:List AK
 inst:List Aq
def AG (s:ByteArray):List UInt8:=Ao s.size++s.data.toList
def BB (e:Int) (v r:ByteArray):List UInt8:=Ao e.toNat++(AG v++AG r)
def AU (d:Ax):List UInt8:=AG d.name++(Ao d.op.toNat++if d.op=0 then []else BB d.ep d.ver d.rel)
def Bk:Ac→List UInt8
 | .nil=>Ao 0++Ao 0
 | .node k d n f=>Ao k.toNat++if k=1 then AU d else Ao n++B3 (fun j=>Bk (f j)) n
def At (r:Ac):List UInt8:=Ao r.n++B3 (fun j=>Bk (r.args j)) r.n
theorem EP (r:Ac):Bk r=Ao r.kind.toNat++if r.kind=1 then AU r.dep else At r:=by
 cases r with
 |nil=>
  show _=_++if (0:Int)=1 then _ else _
  rw[if_neg (by omega)]
  show Ao 0++Ao 0=Ao 0++(Ao 0++ [])
  rw[List.append_nil]
 |node k d n f=>rfl
def AQ {α:Type} (one:α→List UInt8) (l:List α):List UInt8:=Ao l.length++l.flatMap one
def A4 (p:Aq):List UInt8:=
 AG p.name++(BB p.ep p.ver p.rel++(Ao p.arch.toNat++(AG p.vendor++(AQ AU p.prov++(At p.req++(At p.con++(AQ AU p.obs++(At p.reco++(At p.sup++(At p.sug++(At p.enh++AQ AG p.files)))))))))))
def C9 (r:AK):List UInt8:=Ao r.prio.toNat++AQ A4 r.pkgs
def Ep (d:AA):List UInt8:=AQ C9 d.repos++AQ A4 d.inst
def CV (a:Int):Bool:=decide (1≤a) && decide (a≤4)
def Ay (wh:Int) (r:Ac):Bool:=decide (r.n≤32) && CQ (fun j=>decide (CS (r.args j) wh=0)) r.n
def ltB (a b:ByteArray):Bool:=Op.bytesLess a.toList b.toList
def FL:List ByteArray→Bool
 |a::b::l=>ltB a b && FL (b::l)
 |_=>true
def Eb (l:List Ax):Bool:=decide (l.length≤32) && l.all Ca
def C8 (l:List ByteArray):Bool:=decide (l.length≤32) && l.all BU
def A9 (p:Aq):Bool:=
 (Ce p.name && (!BU p.name && En p.ep p.ver p.rel false)) && ((CV p.arch && decide (p.vendor.size≤64)) && ((Eb p.prov && (Eb p.obs && C8 p.files)) && (FL p.files &&
   (Ay 1 p.req && (Ay 2 p.con && (Ay 1 p.reco && (Ay 3 p.sup && (Ay 1 p.sug && Ay 3 p.enh))))))))
def AA.total (d:AA):Nat:=(d.repos.map fun r=>r.pkgs.length).sum+d.inst.length
def A7 (d:AA):Int:=
 if 16<d.repos.length∨256<d.total then 40
 else if d.repos.all (fun r=>decide (0≤r.prio) && decide (r.prio≤1024))=false then 20
 else if (d.repos.all (fun r=>r.pkgs.all A9) && d.inst.all A9)=false then 4 else 0
def BR (d:AA):List UInt8×Int:=if A7 d=0 then if (Ep d).length≤4194304 then(Ep d,0)else([],40)else([],A7 d)
abbrev Rdr (α:Type):=ByteArray→Nat→Except (Nat×Int) (α×Nat)
def B5 {α:Type} (a:α):Rdr α:=fun _ at_=> .ok (a,at_)
def AJ {α β:Type} (p:Rdr α) (f:α→Rdr β):Rdr β:=fun s at_=>match p s at_ with
 | .ok (a,q)=>f a s q
 | .error x=> .error x
def EA {α β:Type} (p:Rdr α) (f:Nat→α→Rdr β):Rdr β:=fun s at_=>AJ p (f at_) s at_
def Np {α:Type} (at_:Nat) (e:Int):Rdr α:=fun _ _=> .error (at_,e)
def Cc (lo hi:Int):Rdr Nat:=fun s at_=>match rdN s at_ lo hi 9 0 0 with
 | .inl (n,k)=> .ok (n,at_+k)
 | .inr x=> .error (at_,x)
def B6 (most:Int):Rdr ByteArray:=fun s at_=>match rdN s at_ 0 most 9 0 0 with
 | .inl (n,k)=>if s.size<at_+k+n then .error (at_+k,8)else .ok (s.extract (at_+k) (at_+k+n),at_+k+n)
 | .inr x=> .error (at_,x)
def Nu {α:Type} (p:Rdr α):Nat→Rdr (List α)
 |0=>B5 []
 |n+1=>AJ p fun x=>AJ (Nu p n) fun l=>B5 (x::l)
def Cd {α:Type} (lo hi:Int) (p:Rdr α):Rdr (List α):=AJ (Cc lo hi) (Nu p)
def Nv:Rdr (Int×ByteArray×ByteArray):=AJ (Cc 0 2147483647) fun n=>AJ (B6 64) fun v=>AJ (B6 64) fun r=>B5 ((n:Int),v,r)
def GZ:Rdr Ax:=AJ (B6 64) fun nm=>AJ (Cc 0 6) fun op=>if op=0 then B5 ⟨nm,0,0,emp,emp⟩else AJ Nv fun e=>B5 ⟨nm,(op:Int),e.1,e.2.1,e.2.2⟩
def ofL (k:Int) (l:List Ac):Ac:= .node k EI l.length fun j=>l.getD j .nil
def EV (d:Ax):Ac:= .node 1 d 0 fun _=> .nil
def B7:Nat→Rdr Ac
 |0=>EA (Cc 1 7) fun at_ k=>if k=1 then AJ GZ fun d=>B5 (EV d)else Np at_ 21
 |m+1=>EA (Cc 1 7) fun _ k=>if k=1 then AJ GZ fun d=>B5 (EV d)else AJ (Cd 2 24 (B7 m)) fun l=>B5 (ofL k l)
def Jn:Rdr (List Ax):=Cd 0 32 GZ
def A8:Rdr Ac:=AJ (Cd 0 32 (B7 8)) fun l=>B5 (ofL 0 l)
def IA:Rdr (List ByteArray):=Cd 0 32 (B6 64)
def Gi:Rdr Aq:=
 AJ (B6 64) fun name=>AJ Nv fun e=>AJ (Cc 1 4) fun arch=>AJ (B6 64) fun vendor=>AJ Jn fun prov=>AJ A8 fun req=>AJ A8 fun con=>AJ Jn fun obs=>
 AJ A8 fun reco=>AJ A8 fun sup=>AJ A8 fun sug=>AJ A8 fun enh=>AJ IA fun files=>
 B5 ⟨name,e.1,e.2.1,e.2.2,(arch:Int),vendor,prov,req,con,obs,reco,sup,sug,enh,files⟩
def Iz:Rdr Aq:=EA Gi fun at_ p=>if A9 p=true then B5 p else Np at_ 4
def Hv (left:Nat):Rdr (List Aq):=Cd 0 (left:Int) Iz
def FA (left:Nat):Rdr AK:=AJ (Cc 0 1024) fun n=>AJ (Hv left) fun l=>B5 ⟨(n:Int),l⟩
def Iy:Nat→Nat→Rdr (List AK×Nat)
 |0,left=>B5 ([],left)
 |n+1,left=>AJ (FA left) fun x=>AJ (Iy n (left-x.pkgs.length)) fun y=>B5 (x::y.1,y.2)
def Nw:Rdr AA:=AJ (Cc 0 16) fun n=>AJ (Iy n 256) fun y=>AJ (Hv y.2) fun i=>B5 ⟨y.1,i⟩
def IS (s:ByteArray):Except (Nat×Int) AA:=
 if 4194304<s.size then .error (0,40)else match Nw s 0 with
  | .ok (d,q)=>if q<s.size then .error (q,10)else .ok d
  | .error x=> .error x
theorem Ez (s:ByteArray) (at_:Nat) (lo hi:Int):∀f i n x,rdN s at_ lo hi f i n= .inr x→(x==0)=false:=by
 intro f
 induction f with
 |zero=>intro i n x h;simp[rdN]at h;subst h;rfl
 |succ f ih=>
  intro i n x h
  rw[rdN]at h
  split at h
  ·simp at h;subst h;rfl
  ·split at h
   ·exact ih _ _ _ h
   ·split at h
    ·simp at h;subst h;rfl
    ·split at h
     ·simp at h;subst h;rfl
     ·simp at h
theorem Ha (s:ByteArray):s.data.toList.length=s.size:=by simp
section
variable {α β:Type}
theorem A1 {p:Rdr α} {f:α→Rdr β} {s:ByteArray} {at_ q:Nat} {v:β}:AJ p f s at_= .ok (v,q)↔∃a r,p s at_= .ok (a,r)∧f a s r= .ok (v,q):=by
 unfold AJ
 cases h:p s at_ with
 |ok x=>
  obtain⟨a,r⟩:=x
  exact⟨fun h2=>⟨a,r,rfl,h2⟩,fun⟨a',r',e,h2⟩=>by
   injection e with e
   injection e with e1 e2
   subst e1 e2
   exact h2⟩
 |error x=>exact⟨fun h2=>(by cases h2),fun⟨a',r',e,_⟩=>(by cases e)⟩
theorem DZ {p:Rdr α} {f:α→Rdr β} {s:ByteArray} {at_:Nat} {x:Nat×Int}:AJ p f s at_= .error x↔p s at_= .error x∨∃a r,p s at_= .ok (a,r)∧f a s r= .error x:=by
 unfold AJ
 cases h:p s at_ with
 |ok y=>
  obtain⟨a,r⟩:=y
  exact⟨fun h2=> .inr ⟨a,r,rfl,h2⟩,fun h2=>h2.elim (fun e=>by cases e) (fun⟨a',r',e,h2⟩=>by
   injection e with e
   injection e with e1 e2
   subst e1 e2
   exact h2)⟩
 |error y=>exact⟨fun h2=> .inl (by injection h2 with h2;rw[h2]),fun h2=>h2.elim (fun e=>by injection e with e;rw[e]) (fun⟨a',r',e,_⟩=>by cases e)⟩
structure CX (n0:Nat) (P:Rdr α):Prop where
 mono:∀s at_ v q,n0≤at_→at_≤s.size→P s at_= .ok (v,q)→at_≤q∧q≤s.size
 bad:∀s at_ p x,n0≤at_→at_≤s.size→P s at_= .error (p,x)→p≤s.size∧x≠0
 cut:∀s k at_ v q,n0≤at_→at_≤k→k≤s.size→P s at_= .ok (v,q)→(q≤k→P (s.extract 0 k) at_= .ok (v,q))∧(k<q→∃p,P (s.extract 0 k) at_= .error (p,8)∧p≤k)
theorem CX.weak {n m:Nat} {P:Rdr α} (h:CX n P) (hn:n≤m):CX m P:=
 ⟨fun s a v q h1=>h.mono s a v q (by omega),fun s a p x h1=>h.bad s a p x (by omega),fun s k a v q h1=>h.cut s k a v q (by omega)⟩
theorem BM (n:Nat) (a:α):CX n (B5 a):=by
 refine⟨fun s at_ v q _ h1 h=> ?_,fun s at_ p x _ _ h=>(by cases h),fun s k at_ v q _ h1 h2 h=> ?_⟩
 ·injection h with h
  injection h with _ h
  omega
 ·injection h with h
  injection h with e1 e2
  subst e1 e2
  exact⟨fun _=>rfl,fun h3=>by omega⟩
theorem MH (n:Nat) {x:Int} (hx:x≠0):CX n (Np (α:=α) n x):=by
 refine⟨fun s at_ v q _ h1 h=>(by cases h),fun s at_ p x h0 h1 h=> ?_,fun s k at_ v q _ h1 h2 h=>(by cases h)⟩
 injection h with h
 injection h with e1 e2
 subst e1 e2
 exact⟨by omega,hx⟩
theorem IH {n:Nat} {p:Rdr α} {f:Nat→α→Rdr β} (hp:CX n p) (hf:∀at_ a,n≤at_→CX at_ (f at_ a)):CX n (EA p f):=by
 refine⟨fun s at_ v q h0 h1 h=> ?_,fun s at_ e x h0 h1 h=> ?_,fun s k at_ v q h0 h1 h2 h=> ?_⟩
 ·obtain⟨a,r,e1,e2⟩:=A1.1 h
  obtain⟨k1,k2⟩:=hp.mono s at_ a r h0 h1 e1
  obtain⟨k3,k4⟩:=(hf at_ a h0).mono s r v q k1 k2 e2
  exact⟨by omega,k4⟩
 ·rcases DZ.1 h with e3|⟨a,r,e1,e2⟩
  ·exact hp.bad s at_ e x h0 h1 e3
  ·obtain⟨k1,k2⟩:=hp.mono s at_ a r h0 h1 e1
   exact(hf at_ a h0).bad s r e x k1 k2 e2
 ·obtain⟨a,r,e1,e2⟩:=A1.1 h
  obtain⟨k1,k2⟩:=hp.mono s at_ a r h0 (by omega) e1
  obtain⟨k3,k4⟩:=(hf at_ a h0).mono s r v q k1 k2 e2
  obtain⟨c1,c2⟩:=hp.cut s k at_ a r h0 h1 h2 e1
  by_cases hr:r≤k
  ·obtain⟨c3,c4⟩:=(hf at_ a h0).cut s k r v q k1 hr h2 e2
   refine⟨fun h3=>A1.2 ⟨a,r,c1 hr,c3 h3⟩,fun h3=> ?_⟩
   obtain⟨p',e3,h4⟩:=c4 h3
   exact⟨p',DZ.2 (.inr ⟨a,r,c1 hr,e3⟩),h4⟩
  ·refine⟨fun h3=>by omega,fun h3=> ?_⟩
   obtain⟨p',e3,h4⟩:=c2 (by omega)
   exact⟨p',DZ.2 (.inl e3),h4⟩
theorem AF {n:Nat} {p:Rdr α} {f:α→Rdr β} (hp:CX n p) (hf:∀a,CX n (f a)):CX n (AJ p f):=
 IH (f:=fun _=>f) hp fun _ a h=>(hf a).weak h
theorem JM {n:Nat} {p:Rdr α} (hp:CX n p):∀k,CX n (Nu p k)
 |0=>BM n []
 |k+1=>AF hp fun _=>AF (JM hp k) fun _=>BM n _
end
theorem J0 (s:ByteArray) (k:Nat):(s.extract 0 k).data.toList=s.data.toList.take k:=by rw[Dv,List.drop_zero,Nat.sub_zero]
theorem GJ {s:ByteArray} {k:Nat} (h:k≤s.size):(s.extract 0 k).size=k:=by rw[ByteArray.size_extract];omega
theorem Ov {s:ByteArray} {k i:Nat} (h:i<k):BC (s.extract 0 k) i=BC s i:=by
 unfold BC
 rw[J0,List.getD_eq_getElem?_getD,List.getD_eq_getElem?_getD,List.getElem?_take_of_lt h]
theorem PQ {s:ByteArray} {k a b:Nat} (h:b≤k):(s.extract 0 k).extract a b=s.extract a b:=by
 apply QD
 rw[Dv,J0,Dv,List.drop_take,List.take_take,Nat.min_eq_left (by omega)]
theorem Ls {s:ByteArray} {at_ k:Nat} {lo hi:Int} (hk:k≤s.size):∀f i n (m j:Nat),rdN s at_ lo hi f i n= .inl (m,j)→
 (at_+j≤k→rdN (s.extract 0 k) at_ lo hi f i n= .inl (m,j))∧(k<at_+j→rdN (s.extract 0 k) at_ lo hi f i n= .inr 8):=by
 intro f
 induction f with
 |zero=>intro i n m j h;simp[rdN]at h
 |succ f ih=>
  intro i n m j h
  rw[rdN]at h
  rw[rdN,GJ hk]
  by_cases h1:s.size≤at_+i
  ·rw[if_pos h1]at h;cases h
  rw[if_neg h1]at h
  by_cases h2:k≤at_+i
  ·rw[if_pos h2]
   refine⟨fun h3=> ?_,fun _=>rfl⟩
   exfalso
   by_cases h4:128≤BC s (at_+i)
   ·rw[if_pos h4]at h
    have:i+1<j∨i+1≥j:=by omega
    rcases this with h5|h5
    ·omega
    ·have hlt:∀f i n (m j:Nat),rdN s at_ lo hi f i n= .inl (m,j)→i<j:=by
      intro f
      induction f with
      |zero=>intro i n m j h;simp[rdN]at h
      |succ f ih2=>
       intro i n m j h
       rw[rdN]at h
       split at h
       ·cases h
       ·split at h
        ·have:=ih2 _ _ _ _ h;omega
        ·split at h
         ·cases h
         ·split at h
          ·cases h
          ·injection h with h
           injection h with _ h
           omega
     have:=hlt _ _ _ _ _ h
     omega
   ·rw[if_neg h4]at h
    split at h
    ·cases h
    ·split at h
     ·cases h
     ·injection h with h
      injection h with _ h
      omega
  rw[if_neg h2,Ov (by omega)]
  by_cases h4:128≤BC s (at_+i)
  ·rw[if_pos h4]at h ⊢
   exact ih _ _ _ _ h
  ·rw[if_neg h4]at h ⊢
   split at h
   ·cases h
   ·rename_i h5
    rw[if_neg h5]
    split at h
    ·cases h
    ·rename_i h6
     rw[if_neg h6]
     injection h with h
     injection h with e1 e2
     subst e1 e2
     exact⟨fun _=>rfl,fun h7=>by omega⟩
theorem C7 (n0:Nat) (lo hi:Int):CX n0 (Cc lo hi):=by
 refine⟨fun s at_ v q _ h1 h=> ?_,fun s at_ p x _ h1 h=> ?_,fun s k at_ v q _ h1 h2 h=> ?_⟩
 ·unfold Cc at h
  cases hr:rdN s at_ lo hi 9 0 0 with
  |inl y=>
   obtain⟨n,j⟩:=y
   rw[hr]at h
   injection h with h
   injection h with e1 e2
   subst e1 e2
   obtain⟨a1,a2,_⟩:=DQ s at_ lo hi 9 0 0 n j rfl (by simp) hr
   omega
  |inr y=>rw[hr]at h;cases h
 ·unfold Cc at h
  cases hr:rdN s at_ lo hi 9 0 0 with
  |inl y=>rw[hr]at h;cases h
  |inr y=>
   rw[hr]at h
   injection h with h
   injection h with e1 e2
   subst e1 e2
   have:=Ez s at_ lo hi 9 0 0 y hr
   exact⟨h1,by simpa using this⟩
 ·unfold Cc at h ⊢
  cases hr:rdN s at_ lo hi 9 0 0 with
  |inr y=>rw[hr]at h;cases h
  |inl y=>
   obtain⟨n,j⟩:=y
   rw[hr]at h
   injection h with h
   injection h with e1 e2
   subst e1 e2
   obtain⟨c1,c2⟩:=Ls (s:=s) (at_:=at_) (k:=k) (lo:=lo) (hi:=hi) h2 9 0 0 n j hr
   exact⟨fun h3=>by rw[c1 h3],fun h3=>⟨at_,by rw[c2 h3],h1⟩⟩
theorem C3 (n0:Nat) (most:Int):CX n0 (B6 most):=by
 refine⟨fun s at_ v q _ h1 h=> ?_,fun s at_ p x _ h1 h=> ?_,fun s k at_ v q _ h1 h2 h=> ?_⟩
 ·unfold B6 at h
  cases hr:rdN s at_ 0 most 9 0 0 with
  |inl y=>
   obtain⟨n,j⟩:=y
   rw[hr]at h
   simp only at h
   split at h
   ·cases h
   ·injection h with h
    injection h with e1 e2
    subst e1 e2
    omega
  |inr y=>rw[hr]at h;cases h
 ·unfold B6 at h
  cases hr:rdN s at_ 0 most 9 0 0 with
  |inl y=>
   obtain⟨n,j⟩:=y
   rw[hr]at h
   simp only at h
   obtain⟨a1,a2,_⟩:=DQ s at_ 0 most 9 0 0 n j rfl (by simp) hr
   split at h
   ·injection h with h
    injection h with e1 e2
    subst e1 e2
    exact⟨a1,by decide⟩
   ·cases h
  |inr y=>
   rw[hr]at h
   injection h with h
   injection h with e1 e2
   subst e1 e2
   have:=Ez s at_ 0 most 9 0 0 y hr
   exact⟨h1,by simpa using this⟩
 ·unfold B6 at h ⊢
  cases hr:rdN s at_ 0 most 9 0 0 with
  |inr y=>rw[hr]at h;cases h
  |inl y=>
   obtain⟨n,j⟩:=y
   rw[hr]at h
   simp only at h
   obtain⟨c1,c2⟩:=Ls (s:=s) (at_:=at_) (k:=k) (lo:=0) (hi:=most) h2 9 0 0 n j hr
   split at h
   ·cases h
   ·rename_i hs
    injection h with h
    injection h with e1 e2
    subst e1 e2
    by_cases h4:at_+j≤k
    ·rw[c1 h4]
     simp only
     refine⟨fun h3=> ?_,fun h3=>⟨at_+j,?_,h4⟩⟩
     ·rw[if_neg (by rw[GJ h2];omega),PQ (by omega)]
     ·rw[if_pos (by rw[GJ h2];omega)]
    ·rw[c2 (by omega)]
     exact⟨fun h3=>by omega,fun _=>⟨at_,rfl,h1⟩⟩
theorem D3 {α:Type} {n:Nat} {p:Rdr α} (hp:CX n p) (lo hi:Int):CX n (Cd lo hi p):=AF (C7 n _ _) fun _=>JM hp _
theorem JN (n:Nat):CX n Nv:=AF (C7 n _ _) fun _=>AF (C3 n _) fun _=>AF (C3 n _) fun _=>BM n _
theorem Gu (n:Nat):CX n GZ:=AF (C3 n _) fun _=>AF (C7 n _ _) fun op=>by
 by_cases h:op=0
 ·simp only[if_pos h];exact BM n _
 ·simp only[if_neg h];exact AF (JN n) fun _=>BM n _
theorem H0:∀(m n:Nat),CX n (B7 m)
 |0,n=>IH (C7 n _ _) fun at_ k _=>by
  by_cases h:k=1
  ·simp only[if_pos h];exact AF (Gu at_) fun _=>BM at_ _
  ·simp only[if_neg h];exact MH at_ (by decide)
 |m+1,n=>IH (C7 n _ _) fun at_ k _=>by
  by_cases h:k=1
  ·simp only[if_pos h];exact AF (Gu at_) fun _=>BM at_ _
  ·simp only[if_neg h];exact AF (D3 (H0 m at_) _ _) fun _=>BM at_ _
theorem Cu (n:Nat):CX n A8:=AF (D3 (H0 8 n) _ _) fun _=>BM n _
theorem H1 (n:Nat):CX n Jn:=D3 (Gu n) _ _
theorem H2 (n:Nat):CX n Gi:=
 AF (C3 n _) fun _=>AF (JN n) fun _=>AF (C7 n _ _) fun _=>AF (C3 n _) fun _=>AF (H1 n) fun _=>AF (Cu n) fun _=>AF (Cu n) fun _=>
 AF (H1 n) fun _=>AF (Cu n) fun _=>AF (Cu n) fun _=>AF (Cu n) fun _=>AF (Cu n) fun _=>AF (D3 (C3 n _) _ _) fun _=>BM n _
open Go.ChangeShapes Go.WideShapes Go.ChangeAt Go.RowKit Go.Deep
def AX (w:World) (b o:Nat) (cs:List Value):Prop:=b<w.heap.size∧∀i,i<cs.length→w.cell? ⟨b,o+i,none⟩=cs[i]?
theorem AX.same {w w':World} {b o:Nat} {cs:List Value} (h:AX w b o cs) (hb:w'.heap[b]?=w.heap[b]?) (hs:w.heap.size≤w'.heap.size):AX w' b o cs:=
 ⟨Nat.lt_of_lt_of_le h.1 hs,fun i hi=>(World.cell?_of_block (w:=w) hb).trans (h.2 i hi)⟩
theorem AX.below {w w':World} {b o:Nat} {cs:List Value} (h:AX w b o cs) (hb:Below w.heap.size w w'):AX w' b o cs:=h.same (hb.block b h.1) hb.size
theorem AH.cs {w:World} {b o:Nat} {r:Ac} {s:Value} (h:AH w b o r s):AX w b o (AM r s):=by
 refine⟨h.lt,fun i hi=> ?_⟩
 have:i=0∨i=1∨i=2∨i=3∨i=4∨i=5∨i=6:=by simp only[AM,List.length_cons,List.length_nil]at hi;omega
 rcases this with rfl|rfl|rfl|rfl|rfl|rfl|rfl
 ·exact h.c0
 ·exact h.c1
 ·exact h.c2
 ·exact h.c3
 ·exact h.c4
 ·exact h.c5
 ·exact h.c6
theorem AX.rich {w:World} {b o:Nat} {r:Ac} {s:Value} (h:AX w b o (AM r s)):AH w b o r s:=
 ⟨h.2 0 (show 0<7 by omega),h.2 1 (show 1<7 by omega),h.2 2 (show 2<7 by omega),h.2 3 (show 3<7 by omega),h.2 4 (show 4<7 by omega),h.2 5 (show 5<7 by omega),h.2 6 (show 6<7 by omega),h.1⟩
inductive AZ (B:World→Nat→Prop) (w:World):Ac→Value→Prop
 |mk (r:Ac) (a:Option Addr) (c:Nat) (S:Nat→Value) (hd:Fd r.kind r.dep) (hn:r.n≤9223372036854775807)
   (hA:∀j,j<r.n→∃b o,a=some ⟨b,o,none⟩∧B w b∧AH w b (o+j*7) (r.args j) (S j))
   (hS:∀j,j<r.n→AZ B w (r.args j) (S j)):AZ B w r (.slice a r.n c)
theorem AZ.is {B:World→Nat→Prop} {w:World} {r:Ac} {s:Value} (h:AZ B w r s):Au w r s:=by
 induction h with
 |mk r a c S hd hn hA hS ih=>
  refine .mk r a c S hd hn (fun j hj=> ?_) ih
  obtain⟨b,o,h1,_,h2⟩:=hA j hj
  exact⟨b,o,h1,h2⟩
theorem Au.p {w:World} {r:Ac} {s:Value} (h:Au w r s):AZ (fun _ _=>True) w r s:=by
 induction h with
 |mk r a c S hd hn hA hS ih=>
  refine .mk r a c S hd hn (fun j hj=> ?_) ih
  obtain⟨b,o,h1,h2⟩:=hA j hj
  exact⟨b,o,h1,trivial,h2⟩
theorem Bl.p {B:Nat→Prop} {w:World} {r:Ac} {s:Value} (h:Bl B w r s):AZ (fun w b=>B b∧∀i,w.frozen? ⟨b,i,none⟩=false) w r s:=by
 induction h with
 |mk r a c S hd hn hA hS ih=>
  refine .mk r a c S hd hn (fun j hj=> ?_) ih
  obtain⟨b,o,h1,h2,h3,h4⟩:=hA j hj
  exact⟨b,o,h1,⟨h2,h3⟩,h4⟩
theorem AZ.keep {B B':World→Nat→Prop} {w w':World} {r:Ac} {s:Value} (h:AZ B w r s) (hs:w.heap.size≤w'.heap.size) (hk:∀b,B w b→b<w.heap.size→w'.heap[b]?=w.heap[b]?∧B' w' b):AZ B' w' r s:=by
 induction h with
 |mk r a c S hd hn hA hS ih=>
  refine .mk r a c S hd hn (fun j hj=> ?_) ih
  obtain⟨b,o,h1,h2,h3⟩:=hA j hj
  obtain⟨h5,h6⟩:=hk b h2 h3.lt
  exact⟨b,o,h1,h6,h3.same h5 hs⟩
theorem AZ.one {B:World→Nat→Prop} {w:World} {r:Ac} {s:Value} (h:AZ B w r s):s.oneCell'=true:=by
 cases h
 rfl
structure Kd (α:Type) where
 R:Type
 size:Nat
 cells:α→R→List Value
 holds:(World→Nat→Prop)→World→α→R→Prop
 len:∀x r,(cells x r).length=size
 one:∀{B:World→Nat→Prop} {w:World} {x:α} {r:R},holds B w x r→∀u∈cells x r,u.oneCell'=true
 keep:∀{B B':World→Nat→Prop} {w w':World} {x:α} {r:R},holds B w x r→w.heap.size≤w'.heap.size→(∀b,B w b→b<w.heap.size→w'.heap[b]?=w.heap[b]?∧B' w' b)→holds B' w' x r
section
variable {α:Type} {K:Kd α} {B B':World→Nat→Prop} {w w':World} {l:List α} {v:Value}
def LIn (K:Kd α) (B:World→Nat→Prop) (w:World) (l:List α) (v:Value):Prop:=
 ∃(a:Option Addr) (c:Nat),v= .slice a l.length c∧l.length≤4611686018427387904∧
  ∀j (hj:j<l.length),∃(b o:Nat) (r:K.R),a=some ⟨b,o,none⟩∧B w b∧AX w b (o+j*K.size) (K.cells l[j] r)∧K.holds B w l[j] r
theorem LIn.keep (h:LIn K B w l v) (hs:w.heap.size≤w'.heap.size) (hk:∀b,B w b→b<w.heap.size→w'.heap[b]?=w.heap[b]?∧B' w' b):LIn K B' w' l v:=by
 obtain⟨a,c,rfl,h1,h2⟩:=h
 refine⟨a,c,rfl,h1,fun j hj=> ?_⟩
 obtain⟨b,o,r,h3,h4,h5,h6⟩:=h2 j hj
 obtain⟨h7,h8⟩:=hk b h4 h5.1
 exact⟨b,o,r,h3,h8,h5.same h7 hs,K.keep h6 hs hk⟩
theorem LIn.below (h:LIn K B w l v) (hb:Below w.heap.size w w') (hB:∀b,B w b→b<w.heap.size→B' w' b):LIn K B' w' l v:=h.keep hb.size fun b h1 h2=>⟨hb.block b h2,hB b h1 h2⟩
theorem LIn.form (h:LIn K B w l v):∃a c,v= .slice a l.length c:=by
 obtain⟨a,c,rfl,_⟩:=h
 exact⟨a,c,rfl⟩
theorem LIn.bound (h:LIn K B w l v):l.length≤4611686018427387904:=by
 obtain⟨a,c,_,h,_⟩:=h
 exact h
theorem LIn.one (h:LIn K B w l v):v.oneCell'=true:=by
 obtain⟨a,c,rfl⟩:=h.form
 rfl
theorem LIn.nil (K:Kd α) (B:World→Nat→Prop) (w:World):LIn K B w [] nV:=
 ⟨none,0,rfl,by simp,fun j hj=>absurd hj (Nat.not_lt_zero j)⟩
theorem LIn.at_ {a:Option Addr} {c:Nat} (h:LIn K B w l (.slice a l.length c)) (j:Nat) (hj:j<l.length):∃(b o:Nat) (r:K.R),a=some ⟨b,o,none⟩∧B w b∧AX w b (o+j*K.size) (K.cells l[j] r)∧K.holds B w l[j] r:=by
 obtain⟨a',c',he,_,h2⟩:=h
 injection he with he _ _
 subst he
 exact h2 j hj
end
abbrev Am (n0:Nat):World→Nat→Prop:=fun w b=>n0≤b∧∀i,w.frozen? ⟨b,i,none⟩=false
abbrev FR (n0:Nat) (v:Value):World→Nat→Prop:=fun w b=>n0≤b∧v.ownBlock≠some b∧∀i,w.frozen? ⟨b,i,none⟩=false
section
variable {α:Type}
def enL (K:Kd α) (ps:List (α×K.R)):List Value:=ps.flatMap fun p=>K.cells p.1 p.2
theorem PC (K:Kd α) (a b:List (α×K.R)):enL K (a++b)=enL K a++enL K b:=List.flatMap_append
theorem N3 (K:Kd α) (x:α) (r:K.R):enL K [(x,r)]=K.cells x r:=by simp[enL]
theorem Dw (K:Kd α):∀ps:List (α×K.R),(enL K ps).length=ps.length*K.size
 | []=>by simp[enL]
 |p::ps=>by
  show(K.cells p.1 p.2++enL K ps).length=_
  rw[List.length_append,K.len,Dw K ps,List.length_cons,Nat.add_mul,Nat.one_mul,Nat.add_comm]
theorem GE (K:Kd α):∀(ps:List (α×K.R)) (j:Nat) (hj:j<ps.length) (i:Nat),i<K.size→(enL K ps)[j*K.size+i]?=(K.cells ps[j].1 ps[j].2)[i]?
 |p::ps,0,_,i,hi=>by
  show(K.cells p.1 p.2++enL K ps)[0*K.size+i]?=_
  rw[Nat.zero_mul,Nat.zero_add,List.getElem?_append_left (by rw[K.len];exact hi)]
  rfl
 |p::ps,j+1,hj,i,hi=>by
  show(K.cells p.1 p.2++enL K ps)[(j+1)*K.size+i]?=_
  have hl:=K.len p.1 p.2
  rw[List.getElem?_append_right (by rw[hl,Nat.add_mul];omega),show(j+1)*K.size+i-(K.cells p.1 p.2).length=j*K.size+i from by rw[hl,Nat.add_mul];omega,GE K ps j (by simpa using hj) i hi]
  rfl
structure Acc (K:Kd α) (t:TypeId) (n0:Nat) (w:World) (l:List α) (v:Value):Prop where
 ex:∃ps:List (α×K.R),ps.map Prod.fst=l∧Own w t K.size v l.length (enL K ps)∧(∀b,v.ownBlock=some b→n0≤b)∧∀p∈ps,K.holds (FR n0 v) w p.1 p.2
theorem Acc.nil (K:Kd α) (t:TypeId) (n0:Nat) (w:World):Acc K t n0 w [] nV:=
 ⟨[],rfl,Own.nil _ _ _,fun b h=>by simp[Value.ownBlock]at h,fun p h=>by cases h⟩
theorem Own.frozen {w:World} {t:TypeId} {size n:Nat} {v:Value} {xs:List Value} (h:Own w t size v n xs):∀b,v.ownBlock=some b→∀i,w.frozen? ⟨b,i,none⟩=false:=fun b hb i=>by
 obtain⟨cur,hc⟩:=h.blk hb
 exact hc.frozen i
theorem Acc.keep {K:Kd α} {t:TypeId} {n0:Nat} {w w':World} {l:List α} {v:Value} (h:Acc K t n0 w l v) (hs:w.heap.size≤w'.heap.size) (hk:∀b,n0≤b→b<w.heap.size→w'.heap[b]?=w.heap[b]?):Acc K t n0 w' l v:=by
 obtain⟨ps,h1,h2,h3,h4⟩:=h.ex
 refine⟨ps,h1,h2.keep fun b hb=>hk b (h3 b hb) (h2.lt b hb),h3,fun p hp=>K.keep (h4 p hp) hs fun b ⟨k1,k2,k3⟩ k4=>⟨hk b k1 k4,k1,k2,fun i=>(World.frozen?_of_block (w:=w) (hk b k1 k4)).trans (k3 i)⟩⟩
theorem Acc.below {K:Kd α} {t:TypeId} {n0:Nat} {w w':World} {l:List α} {v:Value} (h:Acc K t n0 w l v) (hb:Below w.heap.size w w'):Acc K t n0 w' l v:=h.keep hb.size fun b _ h2=>hb.block b h2
theorem Acc.own {K:Kd α} {t:TypeId} {n0:Nat} {w:World} {l:List α} {v:Value} (h:Acc K t n0 w l v):∃xs,Own w t K.size v l.length xs∧∀u∈xs,u.oneCell'=true:=by
 obtain⟨ps,h1,h2,h3,h4⟩:=h.ex
 refine⟨_,h2,fun u hu=> ?_⟩
 obtain⟨p,hp,hu⟩:=List.mem_flatMap.1 hu
 exact K.one (h4 p hp) u hu
theorem Acc.push {K:Kd α} {t:TypeId} {n0 m0:Nat} {w W':World} {l:List α} {v v':Value} {x:α} {r:K.R} {xs:List Value} (hown:Own w t K.size v l.length xs) (h:Acc K t n0 w l v) (hm:n0≤m0) (hx:K.holds (Am m0) w x r) (hv:∀b,v.ownBlock=some b→b<m0)
 (hn:n0≤w.heap.size) (hO:Own W' t K.size v' (l.length+1) (xs++K.cells x r)) (hg:w.grownBy W' v.ownBlock) (hat:v'.ownBlock=v.ownBlock∨v'.ownBlock=some w.heap.size):Acc K t n0 W' (l++ [x]) v':=by
 obtain⟨ps,h1,h2,h3,h4⟩:=h.ex
 have hxs:xs=enL K ps:=by
  rcases hown.2 with ⟨e1,e2⟩|⟨g,off,cap,cur,e1,hb,_,_,_,hc⟩
  ·have a1:xs= []:=List.eq_nil_of_length_eq_zero (by rw[hown.1,e2];simp)
   have a2:enL K ps= []:=List.eq_nil_of_length_eq_zero (by rw[h2.1,e2];simp)
   rw[a1,a2]
  ·rcases h2.2 with ⟨e3,_⟩|⟨g',off',cap',cur',e3,hb',_,_,_,hc'⟩
   ·rw[e1]at e3;cases e3
   ·rw[e1]at e3
    injection e3 with e3 _ _
    injection e3 with e3
    injection e3 with e4 e5
    subst e4 e5
    obtain⟨_,rfl⟩:=hb.uniq hb'
    have hl:xs.length=(enL K ps).length:=hown.1.trans h2.1.symm
    apply List.ext_getElem? fun i=> ?_
    by_cases hi:i<xs.length
    ·rw[←hc i hi,←hc' i (by omega)]
    ·rw[List.getElem?_eq_none (by omega),List.getElem?_eq_none (by omega)]
 subst hxs
 have hfar:∀b,b<w.heap.size→v.ownBlock≠some b→v'.ownBlock≠some b:=fun b hb hne e=>by
  rcases hat with e2|e2
  ·exact hne (e2▸e)
  ·rw[e2]at e
   injection e with e
   omega
 have hblk:∀b,b<w.heap.size→v.ownBlock≠some b→W'.heap[b]?=w.heap[b]?:=fun b hb hne=>hg.block b hb fun e=>hne e.symm
 refine⟨ps++ [(x,r)],by rw[List.map_append,h1];rfl,?_,fun b hb=> ?_,fun p hp=> ?_⟩
 ·rw[List.length_append,PC,N3]
  exact hO
 ·rcases hat with e|e
  ·exact h3 b (e▸hb)
  ·rw[e]at hb
   injection hb with hb
   omega
 ·rcases List.mem_append.1 hp with hp|hp
  ·exact K.keep (h4 p hp) hg.size fun b ⟨k1,k2,k3⟩ k4=>⟨hblk b k4 k2,k1,hfar b k4 k2,fun i=>(World.frozen?_of_block (w:=w) (hblk b k4 k2)).trans (k3 i)⟩
  ·simp only[List.mem_singleton]at hp
   subst hp
   have hne:∀b,m0≤b→v.ownBlock≠some b:=fun b hb e=>by have:=hv b e;omega
   exact K.keep hx hg.size fun b ⟨k1,k3⟩ k4=>⟨hblk b k4 (hne b k1),by omega,hfar b k4 (hne b k1),fun i=>(World.frozen?_of_block (w:=w) (hblk b k4 (hne b k1))).trans (k3 i)⟩
theorem Acc.done {K:Kd α} {t:TypeId} {n0:Nat} {w:World} {l:List α} {v:Value} (h:Acc K t n0 w l v) (hl:l.length≤4611686018427387904) (_h1:0<K.size):LIn K (Am n0) w l v:=by
 obtain⟨ps,rfl,h2,h3,h4⟩:=h.ex
 have hps:(ps.map Prod.fst).length=ps.length:=List.length_map _
 obtain⟨a,c,rfl,_,_,hc⟩:=h2.form
 refine⟨a,c,rfl,hl,fun j hj=> ?_⟩
 obtain⟨g,off,rfl,hcell,hf,hlt⟩:=hc (by omega)
 have hj':j<ps.length:=by omega
 refine⟨g,off,ps[j].2,rfl,⟨h3 g rfl,hf⟩,⟨hlt,fun i hi=> ?_⟩,?_⟩
 ·have hi':i<K.size:=by rw[K.len]at hi;exact hi
  have hb:j*K.size+i<(enL K ps).length:=by
   rw[Dw]
   have:(j+1)*K.size≤ps.length*K.size:=Nat.mul_le_mul_right _ (by omega)
   rw[Nat.add_mul]at this
   omega
  rw[Nat.add_assoc,hcell _ hb,GE K ps j hj' i hi',List.getElem_map]
 ·rw[List.getElem_map]
  exact K.keep (h4 ps[j] (List.getElem_mem _)) (Nat.le_refl _) fun b ⟨k1,_,k3⟩ _=>⟨rfl,k1,k3⟩
end
def A2:Kd ByteArray where
 R:=Unit
 size:=1
 cells s _:= [.string s]
 holds _ _ s _:=s.size≤9223372036854775807
 len _ _:=rfl
 one _ u hu:=by simp only[List.mem_singleton]at hu;subst hu;rfl
 keep h _ _:=h
def AW:Kd Ax where
 R:=Unit
 size:=5
 cells d _:=d.cs
 holds _ _ d _:=d.fit∧0≤d.op∧d.op<256
 len _ _:=rfl
 one {_ _ d _} _ u hu:=IJ [d] u (by show u∈d.cs++ [];rw[List.append_nil];exact hu)
 keep h _ _:=h
def Aj:Kd Ac where
 R:=Value
 size:=7
 cells r s:=AM r s
 holds B w r s:=AZ B w r s
 len _ _:=rfl
 one {_ _ r s} h u hu:=FT (f:=fun _=>r) (S:=fun _=>s) 1 (fun _ _=>h.one) u hu
 keep h hs hk:=h.keep hs hk
structure AE where
 prov:Value
 req:Value
 con:Value
 obs:Value
 reco:Value
 sup:Value
 sug:Value
 enh:Value
 files:Value
def CC (p:Aq) (r:AE):List Value:= [.string p.name,.int .i64 p.ep,.string p.ver,.string p.rel,.int .u8 p.arch,.string p.vendor,r.prov,r.req,r.con,r.obs,r.reco,r.sup,r.sug,r.enh,r.files]
abbrev Aq.val (p:Aq) (r:AE):Value:= .agg #[.string p.name,.int .i64 p.ep,.string p.ver,.string p.rel,.int .u8 p.arch,.string p.vendor,r.prov,r.req,r.con,r.obs,r.reco,r.sup,r.sug,r.enh,r.files]
def Ab (r:Ac):List Ac:=(List.range r.n).map r.args
theorem BY (r:Ac):(Ab r).length=r.n:=by simp[Ab]
structure Ah (B:World→Nat→Prop) (w:World) (p:Aq) (r:AE):Prop where
 s1:p.name.size≤9223372036854775807
 s2:p.ver.size≤9223372036854775807
 s3:p.rel.size≤9223372036854775807
 s4:p.vendor.size≤9223372036854775807
 ar:0≤p.arch∧p.arch<256
 ep: -9223372036854775808≤p.ep∧p.ep≤9223372036854775807
 prov:LIn AW B w p.prov r.prov
 req:LIn Aj B w (Ab p.req) r.req
 con:LIn Aj B w (Ab p.con) r.con
 obs:LIn AW B w p.obs r.obs
 reco:LIn Aj B w (Ab p.reco) r.reco
 sup:LIn Aj B w (Ab p.sup) r.sup
 sug:LIn Aj B w (Ab p.sug) r.sug
 enh:LIn Aj B w (Ab p.enh) r.enh
 files:LIn A2 B w p.files r.files
theorem Ah.keep {B B':World→Nat→Prop} {w w':World} {p:Aq} {r:AE} (h:Ah B w p r) (hs:w.heap.size≤w'.heap.size) (hk:∀b,B w b→b<w.heap.size→w'.heap[b]?=w.heap[b]?∧B' w' b):Ah B' w' p r:=
 ⟨h.s1,h.s2,h.s3,h.s4,h.ar,h.ep,h.prov.keep hs hk,h.req.keep hs hk,h.con.keep hs hk,h.obs.keep hs hk,h.reco.keep hs hk,h.sup.keep hs hk,h.sug.keep hs hk,h.enh.keep hs hk,h.files.keep hs hk⟩
def AN:Kd Aq where
 R:=AE
 size:=15
 cells p r:=CC p r
 holds B w p r:=Ah B w p r
 len _ _:=rfl
 one {_ _ p r} h u hu:=by
  simp only[CC,List.mem_cons,List.not_mem_nil,or_false]at hu
  rcases hu with rfl|rfl|rfl|rfl|rfl|rfl|rfl|rfl|rfl|rfl|rfl|rfl|rfl|rfl|rfl
  ·exact rfl
  ·exact rfl
  ·exact rfl
  ·exact rfl
  ·exact rfl
  ·exact rfl
  ·exact h.prov.one
  ·exact h.req.one
  ·exact h.con.one
  ·exact h.obs.one
  ·exact h.reco.one
  ·exact h.sup.one
  ·exact h.sug.one
  ·exact h.enh.one
  ·exact h.files.one
 keep h hs hk:=h.keep hs hk
def Az:Kd AK where
 R:=Value
 size:=2
 cells x v:= [.int .i64 x.prio,v]
 holds B w x v:=(-9223372036854775808≤x.prio∧x.prio≤9223372036854775807)∧LIn AN B w x.pkgs v
 len _ _:=rfl
 one {_ _ x v} h u hu:=by
  simp only[List.mem_cons,List.not_mem_nil,or_false]at hu
  rcases hu with rfl|rfl
  ·rfl
  ·exact h.2.one
 keep h hs hk:=⟨h.1,h.2.keep hs hk⟩
structure AR (B:World→Nat→Prop) (w:World) (d:AA) (vr vi:Value):Prop where
 repos:LIn Az B w d.repos vr
 inst:LIn AN B w d.inst vi
theorem AR.keep {B B':World→Nat→Prop} {w w':World} {d:AA} {vr vi:Value} (h:AR B w d vr vi) (hs:w.heap.size≤w'.heap.size) (hk:∀b,B w b→b<w.heap.size→w'.heap[b]?=w.heap[b]?∧B' w' b):AR B' w' d vr vi:=
 ⟨h.repos.keep hs hk,h.inst.keep hs hk⟩
abbrev Ai:World→Nat→Prop:=fun _ _=>True
theorem AZ.list {B:World→Nat→Prop} {w:World} {r:Ac} {v:Value} (h:AZ B w r v) (hn:r.n≤4611686018427387904):LIn Aj B w (Ab r) v:=by
 obtain⟨r,a,c,S,hd,_,hA,hS⟩:=h
 refine⟨a,c,by rw[BY],by rw[BY];exact hn,fun j hj=> ?_⟩
 have hj':j<r.n:=by rw[BY]at hj;exact hj
 obtain⟨b,o,h1,h2,h3⟩:=hA j hj'
 have e:(Ab r)[j]=r.args j:=by simp[Ab]
 rw[e]
 exact⟨b,o,S j,h1,h2,h3.cs,hS j hj'⟩
theorem LIn.args {B:World→Nat→Prop} {w:World} {r:Ac} {v:Value} (h:LIn Aj B w (Ab r) v) (hd:Fd r.kind r.dep):AZ B w r v:=by
 obtain⟨a,c,rfl,hn,h2⟩:=h
 rw[BY]at hn ⊢
 have hall:∀j:Nat,∃s:Value,j<r.n→(∃b o,a=some ⟨b,o,none⟩∧B w b∧AH w b (o+j*7) (r.args j) s)∧AZ B w (r.args j) s:=fun j=>by
  by_cases hj:j<r.n
  ·obtain⟨b,o,s,h3,h4,h5,h6⟩:=h2 j (by rw[BY];exact hj)
   have e:(Ab r)[j]'(by rw[BY];exact hj)=r.args j:=by simp[Ab]
   rw[e]at h5 h6
   exact⟨s,fun _=>⟨⟨b,o,h3,h4,h5.rich⟩,h6⟩⟩
  ·exact⟨.slice none 0 0,fun h=>absurd h hj⟩
 obtain⟨S,hS⟩:=Classical.axiomOfChoice hall
 exact .mk r a c S hd (by omega) (fun j hj=>(hS j hj).1) (fun j hj=>(hS j hj).2)
theorem AZ.fit {B:World→Nat→Prop} {w:World} {r:Ac} {v:Value} (h:AZ B w r v):Fd r.kind r.dep:=by
 cases h
 assumption
section
variable {α β:Type}
end
theorem G6 {s:ByteArray} (h:CU s=true):s.size≤64:=by
 unfold CU at h
 simp only[Bool.and_eq_true,decide_eq_true_eq]at h
 exact h.1.2
theorem EN {ep:Int} {v r:ByteArray} {b:Bool} (h:En ep v r b=true):0≤ep∧ep≤2147483647∧v.size≤64∧r.size≤64:=by
 unfold En at h
 simp only[Bool.and_eq_true,Bool.or_eq_true,decide_eq_true_eq]at h
 obtain⟨⟨⟨h1,h2⟩,h3⟩,h4⟩:=h
 refine⟨h1,h2,G6 h3,?_⟩
 rcases h4 with h4|⟨_,h4⟩
 ·exact G6 h4
 ·omega
theorem C2 {s:ByteArray} (h:Ce s=true):s.size≤64:=by
 unfold Ce at h
 simp only[Bool.and_eq_true,decide_eq_true_eq]at h
 exact h.1.2
theorem H4 {s:ByteArray} (h:BU s=true):Ce s=true:=by
 unfold BU at h
 rw[Bool.and_eq_true]at h
 exact h.1
theorem Lx {op:Int} (h:DG op=true):0≤op∧op≤6:=by
 unfold DG at h
 simp only[Bool.or_eq_true,beq_iff_eq]at h
 omega
theorem Ii {s:ByteArray} (h:s.toList.isEmpty=true):s=emp:=by
 rw[ByteArray.toList_eq]at h
 rcases s with ⟨⟨l⟩⟩
 simp only[List.isEmpty_iff]at h
 rw[h]
theorem M5 {d:Ax} (h:d.zero=true):d.ep=0∧d.ver=emp∧d.rel=emp:=by
 unfold Ax.zero at h
 simp only[Bool.and_eq_true,decide_eq_true_eq]at h
 exact⟨h.1,Ii h.2.1,Ii h.2.2⟩
theorem F5 {i:Int} (h:0≤i):((i.toNat:Nat):Int)=i:=Int.toNat_of_nonneg h
def Pd:Ac→Ac
 | .nil=> .nil
 | .node k d n f=> .node k d n fun j=>if j<n then Pd (f j)else .nil
theorem Ka {α β:Type} (f:Nat→α) (g:α→List β):∀n,((List.range n).map f).flatMap g=B3 (fun j=>g (f j)) n
 |0=>rfl
 |n+1=>by rw[List.range_succ,List.map_append,List.flatMap_append,Ka f g n];simp[B3]
theorem O5 {wh k:Int} {n:Nat} {al:Bool} (h:okE wh k n al=true):2≤n∧2≤k∧k≤7:=by
 unfold okE at h
 split at h
 ·simp only[decide_eq_true_eq]at h;omega
 ·split at h
  ·simp only[decide_eq_true_eq]at h;omega
  ·split at h
   ·simp only[Bool.and_eq_true,Bool.or_eq_true,decide_eq_true_eq]at h;omega
   ·split at h
    ·simp only[Bool.and_eq_true,Bool.or_eq_true,decide_eq_true_eq]at h;omega
    ·cases h
theorem Jv {r:Ac} {wh:Int} (h:CS r wh=0):B8 wh r false=true∧r.depth≤8∧r.count≤24:=by
 obtain⟨h1,h2,h3,h4,h5⟩:=Pm.1 h
 exact⟨by rw[Em h1 h2 r false h3];exact h5,h4,h3⟩
def FC (r:Ac):Ac:=ofL 0 ((Ab r).map Pd)
theorem Ja {wh:Int} {r:Ac} (h:Ay wh r=true):r.n≤32∧∀j,j<r.n→CS (r.args j) wh=0:=by
 unfold Ay at h
 rw[Bool.and_eq_true,decide_eq_true_eq,CP]at h
 exact⟨h.1,fun j hj=>of_decide_eq_true (h.2 j hj)⟩
theorem Hf:(r:Ac)→As (Pd r) r=true
 | .nil=>Hc .nil
 | .node k d n f=>by
   rw[C5]
   refine⟨rfl,rfl,rfl,fun j hj=> ?_⟩
   have hj':j<n:=hj
   show As (if j<n then Pd (f j)else .nil) (f j)=true
   rw[if_pos hj']
   exact Hf (f j)
def Ly (p:Aq):Aq:=⟨p.name,p.ep,p.ver,p.rel,p.arch,p.vendor,p.prov,FC p.req,FC p.con,p.obs,FC p.reco,FC p.sup,FC p.sug,FC p.enh,p.files⟩
structure Q6 (p:Aq):Prop where
 name:Ce p.name=true
 evr:En p.ep p.ver p.rel false=true
 arch:1≤p.arch∧p.arch≤4
 vendor:p.vendor.size≤64
 prov:p.prov.length≤32∧∀d∈p.prov,Ca d=true
 obs:p.obs.length≤32∧∀d∈p.obs,Ca d=true
 files:p.files.length≤32∧∀d∈p.files,BU d=true
 req:Ay 1 p.req=true
 con:Ay 2 p.con=true
 reco:Ay 1 p.reco=true
 sup:Ay 3 p.sup=true
 sug:Ay 1 p.sug=true
 enh:Ay 3 p.enh=true
theorem IE {p:Aq} (h:A9 p=true):Q6 p:=by
 unfold A9 CV Eb C8 at h
 simp only[Bool.and_eq_true,decide_eq_true_eq,List.all_eq_true]at h
 obtain⟨⟨h1,h2,h3⟩,⟨⟨h4,h5⟩,h6⟩,⟨h7,h8,h9⟩,h10,h11,h12,h13,h14,h15,h16⟩:=h
 exact⟨h1,h3,⟨h4,h5⟩,h6,h7,h8,h9,h11,h12,h13,h14,h15,h16⟩
def NG (r:AK):AK:=⟨r.prio,r.pkgs.map Ly⟩
def P8 (d:AA):AA:=⟨d.repos.map NG,d.inst.map Ly⟩
def CR (l:List AK):Nat:=(l.map fun r=>r.pkgs.length).sum
theorem GO {d:AA}:A7 d=0↔d.repos.length≤16∧d.total≤256∧d.repos.all (fun r=>decide (0≤r.prio) && decide (r.prio≤1024))=true∧d.repos.all (fun r=>r.pkgs.all A9)=true∧d.inst.all A9=true:=by
 unfold A7
 by_cases h1:16<d.repos.length∨256<d.total
 ·rw[if_pos h1]
  exact⟨fun h=>(by cases h),fun h=>(by omega)⟩
 ·rw[if_neg h1]
  by_cases h2:d.repos.all (fun r=>decide (0≤r.prio) && decide (r.prio≤1024))=false
  ·rw[if_pos h2]
   exact⟨fun h=>(by cases h),fun h=>(by rw[h2]at h;cases h.2.2.1)⟩
  ·rw[if_neg h2]
   by_cases h3:(d.repos.all (fun r=>r.pkgs.all A9) && d.inst.all A9)=false
   ·rw[if_pos h3]
    exact⟨fun h=>(by cases h),fun h=>(by rw[h.2.2.2.1,h.2.2.2.2]at h3;cases h3)⟩
   ·rw[if_neg h3]
    rw[Bool.not_eq_false]at h2 h3
    rw[Bool.and_eq_true]at h3
    exact⟨fun _=>⟨by omega,by omega,h2,h3.1,h3.2⟩,fun _=>rfl⟩
theorem DL (d:AA):d.total=CR d.repos+d.inst.length:=rfl
section
variable {α β:Type}
def Dec (P:Rdr α) (F:α→List UInt8→Prop):Prop:=∀(s:ByteArray) (at_:Nat) (v:α) (q:Nat),at_≤s.size→P s at_= .ok (v,q)→∃b,F v b∧q=at_+b.length∧q≤s.size∧s.data.toList.drop at_=b++s.data.toList.drop q
theorem Dec.mono {P:Rdr α} {F G:α→List UInt8→Prop} (h:Dec P F) (hf:∀v b,F v b→G v b):Dec P G:=fun s at_ v q h1 h2=>by
 obtain⟨b,h3,h4⟩:=h s at_ v q h1 h2
 exact⟨b,hf v b h3,h4⟩
end
def Res {α:Type} (P:Rdr α) (s:ByteArray) (at_:Nat) (e:Int) (x:α) (at2:Nat) (e2:Int):Prop:=
 (e≠0∧at2=at_∧e2=e)∨(e=0∧((P s at_= .ok (x,at2)∧e2=0)∨(P s at_= .error (at2,e2)∧e2≠0)))
section
variable {α β:Type} {s:ByteArray} {at_ at1 at2:Nat} {e e1 e2:Int}
theorem Res.bad {P:Rdr α} {x y:α} (h:Res P s at_ e x at2 e2) (h2:e2≠0):Res P s at_ e y at2 e2:=by
 rcases h with h|⟨h0,h|h⟩
 ·exact .inl h
 ·exact absurd h.2 h2
 ·exact .inr ⟨h0,.inr h⟩
theorem BO {p:Rdr α} {f:Nat→α→Rdr β} {a:α} {b:β} (h:Res p s at_ e a at1 e1) (k:Res (f at_ a) s at1 e1 b at2 e2):Res (EA p f) s at_ e b at2 e2:=by
 rcases h with ⟨h1,rfl,rfl⟩|⟨h0,⟨h1,rfl⟩|⟨h1,h2⟩⟩
 ·rcases k with k|⟨k0,_⟩
  ·exact .inl k
  ·exact absurd k0 h1
 ·rcases k with ⟨k0,_⟩|⟨_,⟨k1,k2⟩|⟨k1,k2⟩⟩
  ·exact absurd rfl k0
  ·exact .inr ⟨h0,.inl ⟨A1.2 ⟨a,at1,h1,k1⟩,k2⟩⟩
  ·exact .inr ⟨h0,.inr ⟨DZ.2 (.inr ⟨a,at1,h1,k1⟩),k2⟩⟩
 ·rcases k with ⟨k0,rfl,rfl⟩|⟨k0,_⟩
  ·exact .inr ⟨h0,.inr ⟨DZ.2 (.inl h1),h2⟩⟩
  ·exact absurd k0 h2
theorem Al {p:Rdr α} {f:α→Rdr β} {a:α} {b:β} (h:Res p s at_ e a at1 e1) (k:Res (f a) s at1 e1 b at2 e2):Res (AJ p f) s at_ e b at2 e2:=BO (f:=fun _=>f) h k
theorem A5 (a:α):Res (B5 a) s at_ e a at_ e:=by
 by_cases h:e=0
 ·subst h;exact .inr ⟨rfl,.inl ⟨rfl,rfl⟩⟩
 ·exact .inl ⟨h,rfl,rfl⟩
theorem Ds {p:Rdr α} {f:α→β} {a:α} (h:Res p s at_ e a at1 e1):Res (AJ p fun x=>B5 (f x)) s at_ e (f a) at1 e1:=Al h (A5 (f a))
end
theorem Lq {s:ByteArray} {at_:Nat} {e lo hi:Int} (hat:at_≤s.size) (hh:0≤hi):∃n:Nat,(CA s at_ e lo hi).1=(n:Int)∧(n:Int)≤hi∧Res (Cc lo hi) s at_ e n (CA s at_ e lo hi).2.1 (CA s at_ e lo hi).2.2∧(CA s at_ e lo hi).2.1≤s.size∧((CA s at_ e lo hi).2.2=0→lo≤(n:Int))∧((CA s at_ e lo hi).2.2≠0→n=0):=by
 unfold CA
 by_cases he:e=0
 ·subst he
  rw[if_pos rfl]
  cases hr:rdN s at_ lo hi 9 0 0 with
  |inl y=>
   obtain⟨n,k⟩:=y
   obtain⟨a1,a2,a3,a4,a5,a6⟩:=DQ s at_ lo hi 9 0 0 n k rfl (by simp) hr
   refine⟨n,rfl,a6,.inr ⟨rfl,.inl ⟨?_,rfl⟩⟩,a1,fun _=>a5,fun h=>absurd rfl h⟩
   unfold Cc
   rw[hr]
  |inr y=>
   have hy:y≠0:=by simpa using Ez s at_ lo hi 9 0 0 y hr
   refine⟨0,rfl,hh,.inr ⟨rfl,.inr ⟨?_,hy⟩⟩,hat,fun h=>absurd h hy,fun _=>rfl⟩
   unfold Cc
   rw[hr]
 ·rw[if_neg he]
  exact⟨0,rfl,hh,.inl ⟨he,rfl,rfl⟩,hat,fun h=>absurd h he,fun _=>rfl⟩
theorem Jc {s:ByteArray} {at_:Nat} {e hi:Int} (hat:at_≤s.size) (hh:0≤hi):((Cx s at_ e hi).1.size:Int)≤hi∧Res (B6 hi) s at_ e (Cx s at_ e hi).1 (Cx s at_ e hi).2.1 (Cx s at_ e hi).2.2∧(Cx s at_ e hi).2.1≤s.size:=by
 unfold Cx
 by_cases he:e=0
 ·subst he
  rw[if_pos rfl]
  cases hr:rdN s at_ 0 hi 9 0 0 with
  |inl y=>
   obtain⟨n,k⟩:=y
   obtain⟨a1,a2,a3,a4,a5,a6⟩:=DQ s at_ 0 hi 9 0 0 n k rfl (by simp) hr
   simp only
   by_cases hs:s.size<at_+k+n
   ·rw[if_pos hs]
    refine⟨hh,.inr ⟨rfl,.inr ⟨?_,show(8:Int)≠0 by decide⟩⟩,a1⟩
    unfold B6
    rw[hr]
    simp only
    rw[if_pos hs]
   ·rw[if_neg hs]
    refine⟨?_,.inr ⟨rfl,.inl ⟨?_,rfl⟩⟩,by simp only;omega⟩
    ·have:(s.extract (at_+k) (at_+k+n)).size=n:=by rw[ByteArray.size_extract];omega
     rw[this]
     exact a6
    ·unfold B6
     rw[hr]
     simp only
     rw[if_neg hs]
  |inr y=>
   have hy:y≠0:=by simpa using Ez s at_ 0 hi 9 0 0 y hr
   refine⟨hh,.inr ⟨rfl,.inr ⟨?_,hy⟩⟩,hat⟩
   unfold B6
   rw[hr]
 ·rw[if_neg he]
  exact⟨hh,.inl ⟨he,rfl,rfl⟩,hat⟩
structure RSt (g gr:Nat) (s:ByteArray) (left:Int) (at_:Nat) (e:Int) (w:World):Prop where
 rb:Blk w g 85 #[.pointer (some ⟨gr,0,none⟩),.int .i64 left]
 wr:Blk w gr 135 (RB s at_ e)
 hat:at_≤s.size
 hs:s.size≤4194304
abbrev RF (g gr:Nat):Nat→Prop:=fun k=>k=g∨k=gr
section
variable {g gr:Nat} {s:ByteArray} {left:Int} {at_:Nat} {e:Int} {w w':World}
theorem RSt.below (h:RSt g gr s left at_ e w) (hb:Below w.heap.size w w'):RSt g gr s left at_ e w':=⟨h.rb.below hb h.rb.lt,h.wr.below hb h.wr.lt,h.hat,h.hs⟩
theorem RSt.drewN (h:RSt g gr s left at_ e w) (n:Nat):RSt g gr s left at_ e (w.drewN n):=⟨h.rb.drewN n,h.wr.drewN n,h.hat,h.hs⟩
theorem RSt.far {b:Nat} {t:TypeId} {cs:Array Value} (h:RSt g gr s left at_ e w) (ht:Ae (RF g gr) w w') (hb:Blk w b t cs) (h1:t≠85) (h2:t≠135):Blk w' b t cs:=
 hb.touch ht (by rintro(e|e);exact hb.ne_ h.rb h1 e;exact hb.ne_ h.wr h2 e)
theorem RSt.ne (h:RSt g gr s left at_ e w):g≠gr:=h.rb.ne_ h.wr (by decide)
theorem RSt.wire {at2:Nat} {e2:Int} (h:RSt g gr s left at_ e w) (hb:Blk w' gr 135 (RB s at2 e2)) (ht:Ae (·=gr) w w') (hat:at2≤s.size):RSt g gr s left at2 e2 w'∧Ae (RF g gr) w w':=
 ⟨⟨h.rb.touch ht h.ne,hb,hat,h.hs⟩,ht.mono fun _ _ e=> .inr e⟩
end
def Cg {α:Type} (g gr:Nat) (s:ByteArray) (left:Int) (at_:Nat) (e:Int) (P:Rdr α) (V:α→Value→World→Prop) (w:World) (ret:Ending) (w':World):Prop:=
 ∃x v at2 e2,ret= .returned v∧V x v w'∧RSt g gr s left at2 e2 w'∧Res P s at_ e x at2 e2∧Ae (RF g gr) w w'
theorem Bv {g gr:Nat} {s:ByteArray} {left:Int} {at_:Nat} {e:Int} {w:World} (lo hi:Int) (hh:0≤hi) (h:RSt g gr s left at_ e w):Calls Tryz.prog 83 #[.pointer (some ⟨gr,0,none⟩),.int .i64 lo,.int .i64 hi] w
 fun r w'=>∃(n at2:Nat) (e2:Int),r= .returned (.int .i64 (n:Int))∧(n:Int)≤hi∧RSt g gr s left at2 e2 w'∧Res (Cc lo hi) s at_ e n at2 e2∧Ae (RF g gr) w w'∧(e2=0→lo≤(n:Int))∧(e2≠0→n=0):=by
 obtain⟨n,h1,h2,h3,h4,h5,h6⟩:=Lq (s:=s) (at_:=at_) (e:=e) (lo:=lo) (hi:=hi) h.hat hh
 refine(Nj gr s at_ e lo hi w h.wr h.hat (by have:=h.hs;omega)).mono fun r w' ⟨k1,k2,k3⟩=> ?_
 obtain⟨k4,k5⟩:=h.wire k2 k3 h4
 exact⟨n,_,_,by rw[k1,h1],h2,k4,h3,k5,h5,h6⟩
theorem BW {g gr:Nat} {s:ByteArray} {left:Int} {at_:Nat} {e:Int} {w:World} (h:RSt g gr s left at_ e w):Calls Tryz.prog 84 #[.pointer (some ⟨g,0,none⟩)] w fun r w'=>r= .returned (.bool (decide (e=0)))∧∃n,w'=w.drewN n:=by
 have c0:w.cell? ⟨g,0,none⟩=some (.pointer (some ⟨gr,0,none⟩)):=h.rb.cell 0
 have HW:=Hd (G5 gr s at_ e w h.wr)
 clear h
 by_cases he:e=0
 ·subst he
  go_enter Tryz.func84,Tryz.ntmps84
  go_wp2_with (first
   |(go_at_call 45;(with_reducible refine HW.out.mono ?_);rintro r w1 ⟨rfl,n,rfl⟩)
   |fail)
  go_ret
  exact⟨rfl,n,rfl⟩
 ·have hd:(e==0)=false:=by simpa using he
  rw[decide_eq_false he]
  go_enter Tryz.func84,Tryz.ntmps84
  go_wp2_with (first
   |(go_at_call 45;(with_reducible refine HW.out.mono ?_);rintro r w1 ⟨rfl,n,rfl⟩)
   |fail)
  go_ret
  exact⟨rfl,n,rfl⟩
theorem CK {g gr:Nat} {s:ByteArray} {left:Int} {at_:Nat} {e:Int} {w:World} (h:RSt g gr s left at_ e w):Calls Tryz.prog 133 #[.pointer (some ⟨g,0,none⟩)] w (Cg g gr s left at_ e (B6 64) (fun x v _=>v= .string x∧x.size≤64) w):=by
 have c0:w.cell? ⟨g,0,none⟩=some (.pointer (some ⟨gr,0,none⟩)):=h.rb.cell 0
 obtain⟨h1,h2,h3⟩:=Jc (s:=s) (at_:=at_) (e:=e) (hi:=64) h.hat (by decide)
 have HT:=Hd (Mb gr s at_ e 64 w h.wr h.hat (by have:=h.hs;omega))
 have HR:=Hd (show∀w',Blk w' gr 135 (RB s (Cx s at_ e 64).2.1 (Cx s at_ e 64).2.2)→Ae (·=gr) w w'→Cg g gr s left at_ e (B6 64) (fun x v _=>v= .string x∧x.size≤64) w (.returned (.string (Cx s at_ e 64).1)) w' from fun w' k2 k3=>by
  obtain⟨k4,k5⟩:=h.wire k2 k3 h3
  exact⟨_,_,_,_,rfl,⟨rfl,by omega⟩,k4,h2,k5⟩)
 clear h h1 h2 h3
 go_enter Tryz.func133,Tryz.ntmps133
 go_wp2_with (first
  |(go_at_call 165;(with_reducible refine HT.out.mono ?_);rintro r w1 ⟨rfl,h1,h2⟩)
  |fail)
 go_ret
 exact HR.out w1 h1 h2
end Go.Proofs.YtdpjjnbelgaagaaGreatDoor
