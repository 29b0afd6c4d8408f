/- The document's reader: numbers. Conditions: as each theorem names them. -/
import Derived.Test.YtdpjjnbelgaagaaGreatDoorG05
import Derived.Great.BuildSlice
import Derived.Test.YtdpjjnbelgaagaaGreatDoorG04
namespace Go.Proofs.YtdpjjnbelgaagaaGreatDoor
set_option maxHeartbeats 32000000
open Go.ChangeShapes Go.WideShapes Go.ChangeAt Go.RowKit
set_option maxRecDepth 100000
theorem F4 {x:Nat} (h:x<9223372036854775808):wrap64 (x:Int)=(x:Int):=by
 unfold wrap64
 omega
theorem PY (n b i:Nat) (_hb:b<256) (hi:i<9) (hn:n<128^i):n+b%128*128^i<128^(i+1)∧b%128*128^i<9223372036854775808∧n+b%128*128^i<9223372036854775808:=by
 have h1:b%128<128:=Nat.mod_lt _ (by omega)
 have h2:b%128*128^i≤127*128^i:=Nat.mul_le_mul_right _ (by omega)
 have h3:128^(i+1)=128*128^i:=by rw[Nat.pow_succ,Nat.mul_comm]
 have h4:=Ix i hi
 omega
theorem JV (g:Nat) (s:ByteArray) (at_:Nat) (e lo hi:Int) (w:World) (hb:Blk w g 105 (RB s at_ e)) (hat:at_≤s.size) (hs:s.size≤140737488351232):
 Calls Tryz.prog 57 #[.pointer (some ⟨g,0,none⟩),.int .i64 lo,.int .i64 hi] w fun r w'=>r= .returned (.int .i64 (CA s at_ e lo hi).1)∧Blk w' g 105 (RB s (CA s at_ e lo hi).2.1 (CA s at_ e lo hi).2.2)∧Ae (·=g) w w':=by
 have hc0:=hb.cell 0
 have hc1:=hb.cell 1
 have hc2:=hb.cell 2
 have hf1:=hb.frozen 1
 have hf2:=hb.frozen 2
 have hlt:=hb.lt
 simp[RB]at hc0 hc1 hc2
 by_cases he:e=0
 ·subst he
  have HB:=Hd hb
  clear hb
  go_enter Tryz.func57,Tryz.ntmps57
  go_wp2_with fail
  go_loopw [7,8,9] (fun x u y wr=>∃(i n:Nat) (un:Int),i≤9∧y= .int .i64 i∧x= .int .i64 n∧u= .int .i64 un∧(i<9→un=((128^i:Nat):Int))∧n<128^i∧rdN s at_ lo hi (9-i) i n=rdN s at_ lo hi 9 0 0∧∃q,wr=w.drewN q) (fun _ _ y _=>9-(intOf y).toNat)
  case atStart=>exact⟨0,0,1,by omega,rfl,rfl,rfl,fun _=>by simp,by simp,rfl,0,rfl⟩
  case round=>
   obtain⟨i,n,un,hi9,rfl,rfl,rfl,hun,hn,hres,q,rfl⟩:=hrel
   have HR:=Hd hres
   clear hres
   by_cases hlt9:i<9
   ·have HS:Hid (rdN s at_ lo hi (9-i) i n=_):=Hd (by rw[show 9-i=(8-i)+1 from by omega,rdN])
    have HUn:=Hd (hun hlt9)
    have hwr:IntKind.i64.wrap ((at_:Int)+(i:Int))=(at_:Int)+(i:Int):=by rw[IntKind.wrap_i64];omega
    by_cases h8:s.size≤at_+i
    ·go_wp2_with fail
     go_quiet (fail)
     go_wp2_with fail
     have HF:=Hd (show CA s at_ 0 lo hi=(0,at_,8) by
      unfold CA
      rw[if_pos rfl,←HR.out,HS.out,if_pos h8])
     go_ret
     rw[HF.out]
     exact⟨rfl,(HB.out.drewN _).set_ 2 _,Ae.setCell (F:=fun x=>x=g) ((Ae.refl _ _).drewN _) (p:=⟨g,2,none⟩) (fun _=>rfl) _⟩
    ·have h8i:¬(s.size:Int)≤(at_:Int)+(i:Int):=by omega
     have hix:=JE s (at_+i) (by omega)
     rw[Int.natCast_add]at hix
     have hb256:=Fg s (at_+i)
     obtain⟨hn2,hm3,hm4⟩:=PY n (BC s (at_+i)) i hb256 hlt9 hn
     have HS2:Hid (rdN s at_ lo hi (9-i) i n=_):=Hd (HS.out.trans (if_neg h8))
     clear HS
     generalize BC s (at_+i)=b at*
     have hwb:IntKind.i64.wrap (b:Int)=(b:Int):=by rw[IntKind.wrap_i64];omega
     clear hun
     go_wp2_with fail
     go_quiet (fail)
     go_wp2_with fail
     go_quiet (fail)
     go_upto_region 12 with fail
     have hmv:wrap64 ((n:Int)+wrap64 ((b:Int)%128*un))=((n+b%128*128^i:Nat):Int):=by
      have h1:(b:Int)%128*un=((b%128*128^i:Nat):Int):=by rw[HUn.out];push_cast;rfl
      rw[h1,F4 hm3,←Int.natCast_add,F4 hm4]
     rw[hmv]
     clear hmv
     generalize n+b%128*128^i=m at*
     by_cases hb128:128≤b
     ·have hbi:¬(b:Int)<128:=by omega
      go_wp2_with fail
      go_roundw
      case rel=>
       refine⟨i+1,m,wrap64 (un*128),by omega,by go_num,rfl,rfl,fun h9=> ?_,hn2,?_,_,rfl⟩
       ·have h1:un*128=((128^(i+1):Nat):Int):=by rw[HUn.out,Nat.pow_succ];push_cast;rfl
        rw[h1]
        exact F4 (by have:=Ix (i+1) h9;omega)
       ·rw[←HR.out,HS2.out,if_pos hb128,show 9-(i+1)=8-i from by omega]
      case measure=>simp[intOf];omega
     ·have hbi:(b:Int)<128:=by omega
      have HS3:Hid (rdN s at_ lo hi (9-i) i n=_):=Hd (HS2.out.trans (if_neg hb128))
      clear HS2
      by_cases hw0:0<i∧b=0
      ·obtain⟨hi0,hb0⟩:=hw0
       have hi0':(0:Int)<(i:Int):=by omega
       have hbb:((b:Int)==0)=true:=by simpa using hb0
       have HF:=Hd (show CA s at_ 0 lo hi=(0,at_,11) by
        unfold CA
        rw[if_pos rfl,←HR.out,HS3.out,if_pos ⟨hi0,hb0⟩])
       clear hb0
       go_wp2_with fail
       go_ret
       rw[HF.out]
       exact⟨rfl,(HB.out.drewN _).set_ 2 _,Ae.setCell (F:=fun x=>x=g) ((Ae.refl _ _).drewN _) (p:=⟨g,2,none⟩) (fun _=>rfl) _⟩
      ·have HS4:Hid (rdN s at_ lo hi (9-i) i n=_):=Hd (HS3.out.trans (if_neg hw0))
       clear HS3
       have hcase:(((b:Int)==0)=false)∨(((b:Int)==0)=true∧¬(0:Int)<(i:Int)∧decide (0<i)=false):=by
        by_cases h:b=0
        ·exact .inr ⟨by simpa using h,by omega,by simp;omega⟩
        ·exact .inl (by simpa using h)
       clear hw0
       rcases hcase with hz|⟨hz,hz2,hz3⟩
       all_goals
        by_cases hlo:(m:Int)<lo
        ·have HF:=Hd (show CA s at_ 0 lo hi=(0,at_,20) by
          unfold CA
          rw[if_pos rfl,←HR.out,HS4.out,if_pos (.inl hlo)])
         go_wp2_with fail
         go_ret
         rw[HF.out]
         exact⟨rfl,(HB.out.drewN _).set_ 2 _,Ae.setCell (F:=fun x=>x=g) ((Ae.refl _ _).drewN _) (p:=⟨g,2,none⟩) (fun _=>rfl) _⟩
        ·by_cases hhi:hi<(m:Int)
         ·have hlo':decide ((m:Int)<lo)=false:=by simpa using hlo
          have HF:=Hd (show CA s at_ 0 lo hi=(0,at_,20) by
           unfold CA
           rw[if_pos rfl,←HR.out,HS4.out,if_pos (.inr hhi)])
          go_wp2_with fail
          go_ret
          rw[HF.out]
          exact⟨rfl,(HB.out.drewN _).set_ 2 _,Ae.setCell (F:=fun x=>x=g) ((Ae.refl _ _).drewN _) (p:=⟨g,2,none⟩) (fun _=>rfl) _⟩
         ·have hlo':decide ((m:Int)<lo)=false:=by simpa using hlo
          have hhi':decide (hi<(m:Int))=false:=by simpa using hhi
          have HF:=Hd (show CA s at_ 0 lo hi=((m:Int),at_+(i+1),0) by
           unfold CA
           rw[if_pos rfl,←HR.out,HS4.out,if_neg (by omega)])
          go_wp2_with fail
          go_ret
          rw[HF.out]
          refine⟨rfl,?_,Ae.setCell (F:=fun x=>x=g) ((Ae.refl _ _).drewN _) (p:=⟨g,1,none⟩) (fun _=>rfl) _⟩
          have h:=(HB.out.drewN (q+0)).set_ 1 (.int .i64 ((at_+(i+1):Nat):Int))
          rw[Int.natCast_add]at h
          exact h
   ·obtain rfl:i=9:=by omega
    have HF:=Hd (show CA s at_ 0 lo hi=(0,at_,20) by
     unfold CA
     rw[if_pos rfl,←HR.out]
     rfl)
    clear hun
    go_wp2_with fail
    go_ret
    rw[HF.out]
    exact⟨rfl,(HB.out.drewN _).set_ 2 _,Ae.setCell (F:=fun x=>x=g) ((Ae.refl _ _).drewN _) (p:=⟨g,2,none⟩) (fun _=>rfl) _⟩
 ·have HB:=Hd hb
  have heb:(e !=0)=true:=by simpa using he
  clear hb
  go_enter Tryz.func57,Tryz.ntmps57
  go_wp2_with fail
  go_ret
  unfold CA
  rw[if_neg he]
  exact⟨rfl,HB.out,Ae.refl _ _⟩
theorem MP (g:Nat) (s:ByteArray) (at_:Nat) (e most:Int) (w:World) (hb:Blk w g 105 (RB s at_ e)) (hat:at_≤s.size) (hs:s.size≤140737488351232):
 Calls Tryz.prog 105 #[.pointer (some ⟨g,0,none⟩),.int .i64 most] w fun r w'=>r= .returned (.string (Cx s at_ e most).1)∧Blk w' g 105 (RB s (Cx s at_ e most).2.1 (Cx s at_ e most).2.2)∧Ae (·=g) w w':=by
 have HN:=Hd (JV g s at_ e 0 most w hb hat hs)
 generalize hT:Cx s at_ e most=T
 unfold Cx at hT
 unfold CA at HN
 clear hb
 go_enter Tryz.func105,Tryz.ntmps105
 by_cases he:e=0
 ·subst he
  rw[if_pos rfl]at hT
  simp only[if_pos]at HN
  have HI:=DQ s at_ 0 most 9 0 0
  have HE:=Ez s at_ 0 most 9 0 0
  generalize rdN s at_ 0 most 9 0 0=res at*
  cases res with
  |inl p=>
   obtain⟨n,k⟩:=p
   obtain⟨i1,_,i2,i3,_,i4⟩:=HI n k (by simp) (by simp) rfl
   clear HI HE
   simp only at HN hT
   generalize at_+k=at2 at*
   go_upto_region 2 with (first
    |(go_at_call 57;(with_reducible refine HN.out.mono ?_);rintro r w1 ⟨rfl,hb1,ht1⟩)
    |fail)
   have hc10:=hb1.cell 0
   have hc11:=hb1.cell 1
   have hc12:=hb1.cell 2
   have hf11:=hb1.frozen 1
   have hf12:=hb1.frozen 2
   have hlt1:=hb1.lt
   simp[RB]at hc10 hc11 hc12
   by_cases hsz:s.size<at2+n
   ·rw[if_pos hsz]at hT
    subst hT
    have hd:decide ((s.size:Int)-((at2:Nat):Int)<(n:Int))=true:=by simp;omega
    have hwr:IntKind.i64.wrap ((s.size:Int)-((at2:Nat):Int))=(s.size:Int)-((at2:Nat):Int):=by rw[IntKind.wrap_i64];omega
    have HB1:=Hd (And.intro hb1 ht1)
    clear hb1 ht1
    go_wp2_with fail
    go_quiet (fail)
    go_wp2_with fail
    go_ret
    exact⟨rfl,(HB1.out.1.drewN _).set_ 2 _,Ae.setCell (F:=fun x=>x=g) (HB1.out.2.drewN _) (p:=⟨g,2,none⟩) (fun _=>rfl) _⟩
   ·have hd:decide ((s.size:Int)-((at2:Nat):Int)<(n:Int))=false:=by simp;omega
    rw[if_neg hsz]at hT
    subst hT
    have hwr:IntKind.i64.wrap ((s.size:Int)-((at2:Nat):Int))=(s.size:Int)-((at2:Nat):Int):=by rw[IntKind.wrap_i64];omega
    have hwr2:IntKind.i64.wrap ((at2:Int)+(n:Int))=(at2:Int)+(n:Int):=by rw[IntKind.wrap_i64];omega
    have hsl:∀W,(Instr.slice 9 (.string s) (some (.int .i64 (at2:Int))) (some (.int .i64 ((at2:Int)+(n:Int)))) none).run Tryz.prog W= .ok (.string (s.extract at2 (at2+n))) W:=fun W=>by
     rw[run_slice_string (h:=Tryz.underlying9) (h0:=by omega) (h1:=by omega) (h2:=by omega)]
     rfl
    have HB1:=Hd (And.intro hb1 ht1)
    clear hb1 ht1
    go_wp2_with fail
    go_quiet (fail)
    go_wp2_with fail
    go_quiet (fail)
    go_wp2_with fail
    go_ret
    exact⟨rfl,(HB1.out.1.drewN _).set_ 1 _,Ae.setCell (F:=fun x=>x=g) (HB1.out.2.drewN _) (p:=⟨g,1,none⟩) (fun _=>rfl) _⟩
  |inr x=>
   have hx:x≠0:=by simpa using HE x rfl
   have hxb:(x !=0)=true:=by simpa using hx
   clear HI HE hx
   subst hT
   simp only at HN
   go_upto_region 2 with (first
    |(go_at_call 57;(with_reducible refine HN.out.mono ?_);rintro r w1 ⟨rfl,hb1,ht1⟩)
    |fail)
   have hc12:=hb1.cell 2
   have hlt1:=hb1.lt
   simp[RB]at hc12
   have HB1:=Hd (And.intro hb1 ht1)
   clear hb1 ht1
   go_wp2_with fail
   go_ret
   exact⟨rfl,HB1.out.1,HB1.out.2⟩
 ·rw[if_neg he]at hT
  subst hT
  simp only[if_neg he]at HN
  have hxb:(e !=0)=true:=by simpa using he
  go_upto_region 2 with (first
   |(go_at_call 57;(with_reducible refine HN.out.mono ?_);rintro r w1 ⟨rfl,hb1,ht1⟩)
   |fail)
  have hc12:=hb1.cell 2
  have hlt1:=hb1.lt
  simp[RB]at hc12
  have HB1:=Hd (And.intro hb1 ht1)
  clear hb1 ht1
  go_wp2_with fail
  go_ret
  exact⟨rfl,HB1.out.1,HB1.out.2⟩
abbrev WT:=List UInt8×Int
structure AS (st:WT) (b:List UInt8) (st':WT):Prop where
 fits:st.2=0→st.1.length+b.length≤4194304→st'=(st.1++b,0)
 not:st.2=0→4194304<st.1.length+b.length→st'.2=40
 bad:st.2≠0→st'.2=st.2
theorem AS.nil (st:WT) (h:st.1.length≤4194304):AS st [] st:=
 ⟨fun h1 _=>by rw[List.append_nil,←h1],fun _ h2=>by simp at h2;omega,fun _=>rfl⟩
theorem AS.trans {st st1 st2:WT} {b1 b2:List UInt8} (h:AS st b1 st1) (k:AS st1 b2 st2):AS st (b1++b2) st2:=by
 refine⟨fun h1 h2=> ?_,fun h1 h2=> ?_,fun h1=> ?_⟩
 ·rw[List.length_append]at h2
  have e:=h.fits h1 (by omega)
  subst e
  rw[k.fits rfl (by simp only[List.length_append];omega),List.append_assoc]
 ·rw[List.length_append]at h2
  by_cases h3:st.1.length+b1.length≤4194304
  ·have e:=h.fits h1 h3
   subst e
   exact k.not rfl (by simp only[List.length_append];omega)
  ·have e:=h.not h1 (by omega)
   rw[k.bad (by rw[e];decide),e]
 ·have e:=h.bad h1
  rw[k.bad (by rw[e];exact h1),e]
def wr1 (st:WT) (x:List UInt8):WT:=(Jj st.1 x,if st.2=0 then Iw st.1 x else st.2)
theorem AS.one (st:WT) (x:List UInt8):AS st x (wr1 st x):=by
 unfold wr1 Jj Iw
 refine⟨fun h1 h2=> ?_,fun h1 h2=> ?_,fun h1=> ?_⟩
 ·rw[if_pos h2,if_pos h1,if_pos h2]
 ·simp only
  rw[if_pos h1,if_neg (by omega)]
 ·simp only
  rw[if_neg h1]
structure AO (W0:World) (g gw:Nat) (v:Value) (st:WT) (w:World):Prop where
 bl:Below W0.heap.size W0 w
 wb:Blk w g 68 #[.pointer (some ⟨gw,0,none⟩),.int .i64 st.2]
 isw:IsW w gw v st.1
 hg:W0.heap.size≤g
 hgw:W0.heap.size≤gw
 hv:∀k,v.ownBlock=some k→W0.heap.size≤k
structure AB (g gw:Nat) (w:World) (v:Value) (w':World) (v':Value):Prop where
 touch:Ae (fun k=>k=g∨WF gw v k) w w'
 at_:∀k,v'.ownBlock=some k→v.ownBlock=some k∨w.heap.size≤k
theorem AB.refl (g gw:Nat) (w:World) (v:Value):AB g gw w v w v:=⟨Ae.refl _ _,fun _ h=> .inl h⟩
theorem AB.of_below {g gw:Nat} {w w':World} {v:Value} (h:Below w.heap.size w w'):AB g gw w v w' v:=⟨Ae.of_below h _,fun _ h=> .inl h⟩
theorem AB.of_w {g gw:Nat} {w w':World} {v v':Value} (h:CD gw w v w' v'):AB g gw w v w' v':=⟨h.touch.mono fun _ _ h=> .inr h,h.at_⟩
theorem AB.trans {g gw:Nat} {a b c:World} {u v x:Value} (h:AB g gw a u b v) (k:AB g gw b v c x):AB g gw a u c x:=
 ⟨h.touch.trans k.touch fun j hj hf=>by
   rcases hf with hf|hf|hf
   ·exact .inl hf
   ·exact .inr (.inl hf)
   ·rcases h.at_ j hf with h1|h1
    ·exact .inr (.inr h1)
    ·omega,fun j hj=>by
   rcases k.at_ j hj with h1|h1
   ·exact h.at_ j h1
   ·have:=h.touch.size
    exact .inr (by omega)⟩
theorem AO.below {W0:World} {g gw:Nat} {v:Value} {st:WT} {w w':World} (h:AO W0 g gw v st w) (hb:Below w.heap.size w w'):AO W0 g gw v st w':=
 ⟨h.bl.trans (hb.mono h.bl.size),h.wb.below hb h.wb.lt,h.isw.below hb,h.hg,h.hgw,h.hv⟩
theorem AO.far {W0:World} {g gw:Nat} {v v':Value} {st:WT} {w w':World} {b:Nat} {t:TypeId} {cs:Array Value} (h:AO W0 g gw v st w) (hs:AB g gw w v w' v') (hb:Blk w b t cs) (h1:t≠68) (h2:t≠108) (h3:t≠5):Blk w' b t cs:=by
 refine hb.touch hs.touch ?_
 rintro(e|e|e)
 ·exact hb.ne_ h.wb h1 e
 ·exact hb.ne_ h.isw.blk h2 e
 ·exact h.isw.own.ne_blk hb (Ne.symm h3) e
theorem AO.step {W0:World} {g gw:Nat} {v v':Value} {st st':WT} {w w':World} (h:AO W0 g gw v st w) (hs:AB g gw w v w' v') (hb:Blk w' g 68 #[.pointer (some ⟨gw,0,none⟩),.int .i64 st'.2]) (hw:IsW w' gw v' st'.1):AO W0 g gw v' st' w':=by
 have hz:=h.bl.size
 refine⟨h.bl.trans (hs.touch.below hz fun x hx hf=> ?_),hb,hw,h.hg,h.hgw,fun k hk=> ?_⟩
 ·rcases hf with e|e|e
  ·have:=h.hg;omega
  ·have:=h.hgw;omega
  ·have:=h.hv x e;omega
 ·rcases hs.at_ k hk with e|e
  ·exact h.hv k e
  ·omega
def Bn (W0:World) (g gw:Nat) (v:Value) (st:WT) (b:List UInt8) (w:World) (e:Ending) (w':World):Prop:=
 e= .returned (.tuple #[])∧∃v' st',AO W0 g gw v' st' w'∧AS st b st'∧AB g gw w v w' v'
theorem JD (g gw:Nat) (e0 e:Int) (w:World) (hb:Blk w g 68 #[.pointer (some ⟨gw,0,none⟩),.int .i64 e0]):Calls Tryz.prog 110 #[.pointer (some ⟨g,0,none⟩),.int .i64 e] w fun r w'=>r= .returned (.tuple #[])∧Blk w' g 68 #[.pointer (some ⟨gw,0,none⟩),.int .i64 (if e0=0 then e else e0)]∧Ae (·=g) w w':=by
 have c1:w.cell? ⟨g,1,none⟩=some (.int .i64 e0):=hb.cell 1
 have f1:=hb.frozen 1
 have HB:=Hd hb
 clear hb
 by_cases h:e0=0
 ·subst h
  go_enter Tryz.func110,Tryz.ntmps110
  go_wp2_with fail
  go_end0
  exact⟨rfl,HB.out.set_ 1 _,Ae.setCell (F:=fun x=>x=g) (Ae.refl _ _) (p:=⟨g,1,none⟩) (fun _=>rfl) _⟩
 ·have h2:(e0==0)=false:=by simpa using h
  go_enter Tryz.func110,Tryz.ntmps110
  go_wp2_with fail
  go_end0
  exact⟨rfl,HB.out,Ae.refl _ _⟩
theorem AO.one {W0:World} {g gw:Nat} {v v':Value} {st:WT} {x:List UInt8} {w w1 w2:World} (h:AO W0 g gw v st w) (h1:IsW w1 gw v' (Jj st.1 x)) (h2:CD gw w v w1 v')
 (h3:Blk w2 g 68 #[.pointer (some ⟨gw,0,none⟩),.int .i64 (if st.2=0 then Iw st.1 x else st.2)]) (h4:Ae (·=g) w1 w2):∃v' st',AO W0 g gw v' st' w2∧AS st x st'∧AB g gw w v w2 v':=by
 have hb1:Blk w1 g 68 #[.pointer (some ⟨gw,0,none⟩),.int .i64 st.2]:=h.wb.touch h2.touch (by
  rintro(e|e)
  ·exact h.wb.ne_ h.isw.blk (by decide) e
  ·exact h.isw.own.ne_blk h.wb (by decide) e)
 have hs:AB g gw w v w2 v':=(AB.of_w h2).trans ⟨h4.mono fun _ _ e=> .inl e,fun _ e=> .inl e⟩
 have hw2:IsW w2 gw v' (Jj st.1 x):=h1.touch h4 (fun e=>hb1.ne_ h1.blk (by decide) e.symm) (fun k hk e=>h1.own.ne_blk hb1 (by decide) (e▸hk))
 exact⟨v',wr1 st x,h.step (st':=wr1 st x) hs h3 hw2,AS.one st x,hs⟩
theorem Bu (W0:World) (g gw:Nat) (v:Value) (st:WT) (n:Nat) (w:World) (hn:n≤9223372036854775807) (h:AO W0 g gw v st w):
 Calls Tryz.prog 61 #[.pointer (some ⟨g,0,none⟩),.int .i64 n] w (Bn W0 g gw v st (Ao n) w):=by
 have c0:w.cell? ⟨g,0,none⟩=some (.pointer (some ⟨gw,0,none⟩)):=h.wb.cell 0
 have HH:=Hd h
 have HN:=Hd (Pa gw v st.1 n w hn h.isw)
 clear h
 go_enter Tryz.func61,Tryz.ntmps61
 go_wp2_with fail
 refine HN.out.mono ?_
 rintro e w1 ⟨rfl,v',h1,h2⟩
 have hb1:Blk w1 g 68 #[.pointer (some ⟨gw,0,none⟩),.int .i64 st.2]:=HH.out.wb.touch h2.touch (by
  rintro(e|e)
  ·exact HH.out.wb.ne_ HH.out.isw.blk (by decide) e
  ·exact HH.out.isw.own.ne_blk HH.out.wb (by decide) e)
 have HK:=Hd (JD g gw st.2 (Iw st.1 (Ao n)) w1 hb1)
 clear hb1
 go_wp2_with fail
 refine HK.out.mono ?_
 rintro e w2 ⟨rfl,h3,h4⟩
 go_wp2_with fail
 go_end0
 exact⟨rfl,HH.out.one h1 h2 h3 h4⟩
theorem Cm (W0:World) (g gw:Nat) (v:Value) (st:WT) (s:ByteArray) (w:World) (hn:s.size≤140737488351232) (h:AO W0 g gw v st w):
 Calls Tryz.prog 62 #[.pointer (some ⟨g,0,none⟩),.string s] w (Bn W0 g gw v st (AG s) w):=by
 have c0:w.cell? ⟨g,0,none⟩=some (.pointer (some ⟨gw,0,none⟩)):=h.wb.cell 0
 have HH:=Hd h
 have HN:=Hd (LY gw v st.1 s w hn h.isw)
 clear h
 go_enter Tryz.func62,Tryz.ntmps62
 go_wp2_with fail
 refine HN.out.mono ?_
 rintro e w1 ⟨rfl,v',h1,h2⟩
 have hb1:Blk w1 g 68 #[.pointer (some ⟨gw,0,none⟩),.int .i64 st.2]:=HH.out.wb.touch h2.touch (by
  rintro(e|e)
  ·exact HH.out.wb.ne_ HH.out.isw.blk (by decide) e
  ·exact HH.out.isw.own.ne_blk HH.out.wb (by decide) e)
 have HK:=Hd (JD g gw st.2 (Iw st.1 (Ao s.size++s.data.toList)) w1 hb1)
 clear hb1
 go_wp2_with fail
 refine HK.out.mono ?_
 rintro e w2 ⟨rfl,h3,h4⟩
 go_wp2_with fail
 go_end0
 exact⟨rfl,HH.out.one h1 h2 h3 h4⟩
theorem H9 (W0:World) (g gw:Nat) (v:Value) (st:WT) (ep:Int) (ver rel:ByteArray) (w:World) (h0:0≤ep) (h1:ep≤9223372036854775807) (hv:ver.size≤140737488351232) (hr:rel.size≤140737488351232) (h:AO W0 g gw v st w):
 Calls Tryz.prog 63 #[.pointer (some ⟨g,0,none⟩),.agg #[.int .i64 ep,.string ver,.string rel]] w (Bn W0 g gw v st (BB ep ver rel) w):=by
 obtain⟨n,rfl⟩:∃n:Nat,ep=n:=⟨ep.toNat,(F5 h0).symm⟩
 have hb1:=Ag w (.cells #[.int .i64 (n:Int),.string ver,.string rel] 24)
 obtain⟨b,hbe⟩:∃b,b=w.heap.size:=⟨_,rfl⟩
 obtain⟨w1,hw1⟩:∃w1,w1=w.alloc (.cells #[.int .i64 (n:Int),.string ver,.string rel] 24):=⟨_,rfl⟩
 have hx1:Blk w1 b 24 #[.int .i64 (n:Int),.string ver,.string rel]:=by rw[hw1,hbe];exact Blk.new _ _ _
 rw[←hw1]at hb1
 have HS1:=Hd (show AO W0 g gw v st w1∧Blk w1 b 24 #[.int .i64 (n:Int),.string ver,.string rel]from⟨h.below hb1,hx1⟩)
 have HC1:=Hd (AB.of_below (g:=g) (gw:=gw) (v:=v) hb1)
 have c0:w1.cell? ⟨b,0,none⟩=some (.int .i64 (n:Int)):=hx1.cell 0
 have HN:=Hd (Bu W0 g gw v st n w1 (by omega) HS1.out.1)
 clear hx1 hb1 h h0 h1
 go_enter Tryz.func63,Tryz.ntmps63
 go_upto_region 1 with fail
 rw[←hw1,←hbe]
 clear hw1 hbe
 go_wp2_with fail
 refine HN.out.mono ?_
 rintro e w2 ⟨rfl,v2,st2,hs2,hr2,hc2⟩
 have hx2:=HS1.out.1.far hc2 HS1.out.2 (by decide) (by decide) (by decide)
 have c1:w2.cell? ⟨b,1,none⟩=some (.string ver):=hx2.cell 1
 have HS2:=Hd (show AO W0 g gw v2 st2 w2∧Blk w2 b 24 #[.int .i64 (n:Int),.string ver,.string rel]from⟨hs2,hx2⟩)
 have HC2:=Hd (show AB g gw w v w2 v2∧AS st (Ao n) st2 from⟨HC1.out.trans hc2,hr2⟩)
 have HN2:=Hd (Cm W0 g gw v2 st2 ver w2 hv hs2)
 clear hs2 hr2 hc2 hx2 HN HC1 HS1 c0
 go_wp2_with fail
 refine HN2.out.mono ?_
 rintro e w3 ⟨rfl,v3,st3,hs3,hr3,hc3⟩
 have hx3:=HS2.out.1.far hc3 HS2.out.2 (by decide) (by decide) (by decide)
 have c2:w3.cell? ⟨b,2,none⟩=some (.string rel):=hx3.cell 2
 have HC3:=Hd (show AB g gw w v w3 v3∧AS st (Ao n++AG ver) st3 from⟨HC2.out.1.trans hc3,HC2.out.2.trans hr3⟩)
 have HN3:=Hd (Cm W0 g gw v3 st3 rel w3 hr hs3)
 clear hs3 hr3 hc3 hx3 HN2 HC2 HS2 c1
 go_wp2_with fail
 refine HN3.out.mono ?_
 rintro e w4 ⟨rfl,v4,st4,hs4,hr4,hc4⟩
 go_wp2_with fail
 go_end0
 refine⟨rfl,v4,st4,hs4,?_,HC3.out.1.trans hc4⟩
 have:=HC3.out.2.trans hr4
 rw[List.append_assoc]at this
 exact this
def Ax.small (d:Ax):Prop:=d.name.size≤64∧(0≤d.op∧d.op<256)∧(0≤d.ep∧d.ep≤2147483647)∧d.ver.size≤64∧d.rel.size≤64
theorem Dn {d:Ax} (h:Ca d=true):d.small:=by
 unfold Ca at h
 simp only[Bool.and_eq_true]at h
 obtain⟨h1,h2,h3⟩:=h
 have h4:=Lx h2
 have h5:=C2 h1
 by_cases h0:d.op=0
 ·rw[if_pos h0]at h3
  obtain⟨e1,e2,e3⟩:=M5 h3
  exact⟨h5,by omega,by omega,by rw[e2];decide,by rw[e3];decide⟩
 ·rw[if_neg h0,Bool.and_eq_true]at h3
  obtain⟨e1,e2,e3,e4⟩:=EN h3.2
  exact⟨h5,by omega,⟨e1,e2⟩,e3,e4⟩
theorem Ia (W0:World) (g gw:Nat) (v:Value) (st:WT) (d:Ax) (w:World) (hd:d.small) (h:AO W0 g gw v st w):
 Calls Tryz.prog 65 #[.pointer (some ⟨g,0,none⟩),d.val] w (Bn W0 g gw v st (AU d) w):=by
 rcases d with ⟨nm,op,ep,ver,rel⟩
 obtain⟨d1,⟨d2,d3⟩,⟨d4,d5⟩,d6,d7⟩:=hd
 simp only at d1 d2 d3 d4 d5 d6 d7
 by_cases hk:op=0
 ·subst hk
  have hb1:=Ag w (.cells #[.string nm,.int .u8 0,.int .i64 ep,.string ver,.string rel] 32)
  obtain⟨b,hbe⟩:∃b,b=w.heap.size:=⟨_,rfl⟩
  obtain⟨w1,hw1⟩:∃w1,w1=w.alloc (.cells #[.string nm,.int .u8 0,.int .i64 ep,.string ver,.string rel] 32):=⟨_,rfl⟩
  have hx1:Blk w1 b 32 #[.string nm,.int .u8 0,.int .i64 ep,.string ver,.string rel]:=by rw[hw1,hbe];exact Blk.new _ _ _
  rw[←hw1]at hb1
  have HS1:=Hd (show AO W0 g gw v st w1∧Blk w1 b 32 #[.string nm,.int .u8 0,.int .i64 ep,.string ver,.string rel]from⟨h.below hb1,hx1⟩)
  have HC1:=Hd (AB.of_below (g:=g) (gw:=gw) (v:=v) hb1)
  have c0:w1.cell? ⟨b,0,none⟩=some (.string nm):=hx1.cell 0
  have HN:=Hd (Cm W0 g gw v st nm w1 (by omega) HS1.out.1)
  clear hx1 hb1 h
  obtain⟨B,hB⟩:∃B,B=AU ⟨nm,0,ep,ver,rel⟩:=⟨_,rfl⟩
  rw[←hB]
  have HBy:=Hd hB
  clear hB
  go_enter Tryz.func65,Tryz.ntmps65
  go_upto_region 1 with fail
  rw[←hw1,←hbe]
  clear hw1 hbe
  go_wp2_with fail
  refine HN.out.mono ?_
  rintro e w2 ⟨rfl,v2,st2,hs2,hr2,hc2⟩
  have hx2:=HS1.out.1.far hc2 HS1.out.2 (by decide) (by decide) (by decide)
  have c1:w2.cell? ⟨b,1,none⟩=some (.int .u8 0):=hx2.cell 1
  have HS2:=Hd (show AO W0 g gw v2 st2 w2∧Blk w2 b 32 #[.string nm,.int .u8 0,.int .i64 ep,.string ver,.string rel]from⟨hs2,hx2⟩)
  have HC2:=Hd (show AB g gw w v w2 v2∧AS st (AG nm) st2 from⟨HC1.out.trans hc2,hr2⟩)
  have HN2:=Hd (show Calls Tryz.prog 61 #[.pointer (some ⟨g,0,none⟩),.int .i64 0] w2 (Bn W0 g gw v2 st2 (Ao 0) w2)from Bu W0 g gw v2 st2 0 w2 (by omega) hs2)
  clear hs2 hr2 hc2 hx2 HN HC1 HS1 c0
  go_wp2_with fail
  refine HN2.out.mono ?_
  rintro e w3 ⟨rfl,v3,st3,hs3,hr3,hc3⟩
  have hx3:=HS2.out.1.far hc3 HS2.out.2 (by decide) (by decide) (by decide)
  have c2:w3.cell? ⟨b,1,none⟩=some (.int .u8 0):=hx3.cell 1
  have HC3:=Hd (show AO W0 g gw v3 st3 w3∧AB g gw w v w3 v3∧AS st (AG nm++Ao 0) st3 from⟨hs3,HC2.out.1.trans hc3,HC2.out.2.trans hr3⟩)
  clear hs3 hr3 hc3 hx3 HN2 HC2 HS2 c1
  go_wp2_with fail
  go_end0
  refine⟨rfl,v3,st3,HC3.out.1,?_,HC3.out.2.1⟩
  have:=HC3.out.2.2
  rw[HBy.out]
  unfold AU
  simpa using this
 ·have hk:¬op=0:=hk
  obtain⟨k,rfl⟩:∃n:Nat,op=n:=⟨op.toNat,(F5 d2).symm⟩
  have hb1:=Ag w (.cells #[.string nm,.int .u8 (k:Int),.int .i64 ep,.string ver,.string rel] 32)
  obtain⟨b,hbe⟩:∃b,b=w.heap.size:=⟨_,rfl⟩
  obtain⟨w1,hw1⟩:∃w1,w1=w.alloc (.cells #[.string nm,.int .u8 (k:Int),.int .i64 ep,.string ver,.string rel] 32):=⟨_,rfl⟩
  have hx1:Blk w1 b 32 #[.string nm,.int .u8 (k:Int),.int .i64 ep,.string ver,.string rel]:=by rw[hw1,hbe];exact Blk.new _ _ _
  rw[←hw1]at hb1
  have HS1:=Hd (show AO W0 g gw v st w1∧Blk w1 b 32 #[.string nm,.int .u8 (k:Int),.int .i64 ep,.string ver,.string rel]from⟨h.below hb1,hx1⟩)
  have HC1:=Hd (AB.of_below (g:=g) (gw:=gw) (v:=v) hb1)
  have c0:w1.cell? ⟨b,0,none⟩=some (.string nm):=hx1.cell 0
  have HN:=Hd (Cm W0 g gw v st nm w1 (by omega) HS1.out.1)
  clear hx1 hb1 h
  obtain⟨B,hB⟩:∃B,B=AU ⟨nm,(k:Int),ep,ver,rel⟩:=⟨_,rfl⟩
  rw[←hB]
  have HBy:=Hd hB
  clear hB
  have hwr:IntKind.i64.wrap ((k:Int))=(k:Int):=by rw[IntKind.wrap_i64];omega
  have hk2:((k:Int) !=0)=true:=by simp;omega
  have hk3:((k:Int)==0)=false:=by simp;omega
  go_enter Tryz.func65,Tryz.ntmps65
  go_upto_region 1 with fail
  rw[←hw1,←hbe]
  clear hw1 hbe
  go_wp2_with fail
  refine HN.out.mono ?_
  rintro e w2 ⟨rfl,v2,st2,hs2,hr2,hc2⟩
  have hx2:=HS1.out.1.far hc2 HS1.out.2 (by decide) (by decide) (by decide)
  have c1:w2.cell? ⟨b,1,none⟩=some (.int .u8 (k:Int)):=hx2.cell 1
  have HS2:=Hd (show AO W0 g gw v2 st2 w2∧Blk w2 b 32 #[.string nm,.int .u8 (k:Int),.int .i64 ep,.string ver,.string rel]from⟨hs2,hx2⟩)
  have HC2:=Hd (show AB g gw w v w2 v2∧AS st (AG nm) st2 from⟨HC1.out.trans hc2,hr2⟩)
  have HN2:=Hd (Bu W0 g gw v2 st2 k w2 (by omega) hs2)
  clear hs2 hr2 hc2 hx2 HN HC1 HS1 c0
  go_wp2_with fail
  refine HN2.out.mono ?_
  rintro e w3 ⟨rfl,v3,st3,hs3,hr3,hc3⟩
  have hx3:=HS2.out.1.far hc3 HS2.out.2 (by decide) (by decide) (by decide)
  have c1':w3.cell? ⟨b,1,none⟩=some (.int .u8 (k:Int)):=hx3.cell 1
  have c2:w3.cell? ⟨b,2,none⟩=some (.int .i64 ep):=hx3.cell 2
  have c3:w3.cell? ⟨b,3,none⟩=some (.string ver):=hx3.cell 3
  have c4:w3.cell? ⟨b,4,none⟩=some (.string rel):=hx3.cell 4
  have HC3:=Hd (show AB g gw w v w3 v3∧AS st (AG nm++Ao k) st3 from⟨HC2.out.1.trans hc3,HC2.out.2.trans hr3⟩)
  have HN3:=Hd (H9 W0 g gw v3 st3 ep ver rel w3 d4 (by omega) (by omega) (by omega) hs3)
  clear hs3 hr3 hc3 hx3 HN2 HC2 HS2 c1
  go_wp2_with fail
  refine HN3.out.mono ?_
  rintro e w4 ⟨rfl,v4,st4,hs4,hr4,hc4⟩
  have HC4:=Hd (show AO W0 g gw v4 st4 w4∧AB g gw w v w4 v4∧AS st (AG nm++Ao k++BB ep ver rel) st4 from⟨hs4,HC3.out.1.trans hc4,HC3.out.2.trans hr4⟩)
  clear hs4 hr4 hc4
  go_wp2_with fail
  go_end0
  refine⟨rfl,v4,st4,HC4.out.1,?_,HC4.out.2.1⟩
  have:=HC4.out.2.2
  rw[HBy.out]
  unfold AU
  simp only[Int.toNat_natCast]
  rw[if_neg (by omega),←List.append_assoc]
  exact this
abbrev VD:Ax→Value→World→Prop:=fun d v _=>v=d.val∧d.small
theorem Ib {g gr:Nat} {s:ByteArray} {left:Int} {at_:Nat} {e:Int} {w:World} (h:RSt g gr s left at_ e w):Calls Tryz.prog 134 #[.pointer (some ⟨g,0,none⟩)] w
 fun ret w'=>∃(ep:Int) (ver rel:ByteArray) (at2:Nat) (e2:Int),ret= .returned (.agg #[.int .i64 ep,.string ver,.string rel])∧(0≤ep∧ep≤2147483647∧ver.size≤64∧rel.size≤64)∧RSt g gr s left at2 e2 w'∧Res Nv s at_ e (ep,ver,rel) at2 e2∧Ae (RF g gr) w w':=by
 obtain⟨b,hbe⟩:∃b,b=w.heap.size:=⟨_,rfl⟩
 obtain⟨w1,hw1⟩:∃w1,w1=w.alloc (.cells #[.int .i64 0,.string ⟨#[]⟩,.string ⟨#[]⟩] 24):=⟨_,rfl⟩
 have hb1:Below w.heap.size w w1:=by rw[hw1];exact Ag _ _
 have hx1:Blk w1 b 24 #[.int .i64 0,.string ⟨#[]⟩,.string ⟨#[]⟩]:=by rw[hw1,hbe];exact Blk.new _ _ _
 have HS1:=Hd (show RSt g gr s left at_ e w1∧Blk w1 b 24 #[.int .i64 0,.string ⟨#[]⟩,.string ⟨#[]⟩]∧Ae (RF g gr) w w1 from⟨h.below hb1,hx1,Ae.of_below hb1 _⟩)
 have HF:=Hd (show∀at_ e w w',RSt g gr s left at_ e w→Blk w b 24 #[.int .i64 0,.string ⟨#[]⟩,.string ⟨#[]⟩]→Ae (RF g gr) w w'→Blk w' b 24 #[.int .i64 0,.string ⟨#[]⟩,.string ⟨#[]⟩]from fun _ _ _ _ h hb ht=>h.far ht hb (by decide) (by decide))
 have HN:=Hd (Bv 0 2147483647 (by decide) HS1.out.1)
 have HBg:=Hd (show w.heap.size≤b by omega)
 have c0:w1.cell? ⟨g,0,none⟩=some (.pointer (some ⟨gr,0,none⟩)):=HS1.out.1.rb.cell 0
 clear h hb1 hx1
 go_enter Tryz.func134,Tryz.ntmps134
 go_upto_region 1 with fail
 rw[←hw1,←hbe]
 have HG:=Hd hbe
 clear hw1 hbe
 go_wp2_with (first
  |(go_at_call 83;(with_reducible refine HN.out.mono ?_);rintro r w2 ⟨n,at1,e1,rfl,hn,hs2,hr2,ht2,hl2,hz2⟩)
  |fail)
 have HS2:=Hd (show RSt g gr s left at1 e1 w2∧Blk w2 b 24 #[.int .i64 0,.string ⟨#[]⟩,.string ⟨#[]⟩]∧Ae (RF g gr) w w2 from⟨hs2,HF.out _ _ _ _ HS1.out.1 HS1.out.2.1 ht2,HS1.out.2.2.trans ht2 fun _ _ h=>h⟩)
 have HR2:=Hd hr2
 have HN2:=Hd (CK hs2)
 clear HN HS1 c0 hs2 hr2 ht2 hl2 hz2
 go_wp2_with (first
  |(go_at_call 133;(with_reducible refine HN2.out.mono ?_);rintro r w3 ⟨ver,v3,at2,e2,rfl,⟨rfl,hv⟩,hs3,hr3,ht3⟩)
  |fail)
 have HS3:=Hd (show RSt g gr s left at2 e2 w3∧Blk w3 b 24 #[.int .i64 0,.string ⟨#[]⟩,.string ⟨#[]⟩]∧Ae (RF g gr) w w3 from⟨hs3,HF.out _ _ _ _ HS2.out.1 HS2.out.2.1 ht3,HS2.out.2.2.trans ht3 fun _ _ h=>h⟩)
 have HR3:=Hd hr3
 have HN3:=Hd (CK hs3)
 clear HN2 HS2 hs3 hr3 ht3
 go_wp2_with (first
  |(go_at_call 133;(with_reducible refine HN3.out.mono ?_);rintro r w4 ⟨rel,v4,at3,e3,rfl,⟨rfl,hv4⟩,hs4,hr4,ht4⟩;have hx4:=HF.out _ _ _ _ HS3.out.1 HS3.out.2.1 ht4;have HS4:=Hd (show RSt g gr s left at3 e3 w4∧Blk w4 b 24 #[.int .i64 0,.string ⟨#[]⟩,.string ⟨#[]⟩]∧Ae (RF g gr) w w4 from⟨hs4,hx4,HS3.out.2.2.trans ht4 fun _ _ h=>h⟩);have HR4:=Hd hr4;have q0:w4.cell? ⟨b,0,none⟩=some (.int .i64 0):=hx4.cell 0;have q1:w4.cell? ⟨b,1,none⟩=some (.string ⟨#[]⟩):=hx4.cell 1;have q2:w4.cell? ⟨b,2,none⟩=some (.string ⟨#[]⟩):=hx4.cell 2;have f0:=hx4.frozen 0;have f1:=hx4.frozen 1;have f2:=hx4.frozen 2;have bl:b<w4.heap.size:=hx4.lt;clear hx4 hs4 hr4 ht4)
  |fail)
 have hk:=((HS4.out.2.1.set_ 0 (.int .i64 (n:Int))).set_ 1 (.string ver)).set_ 2 (.string rel)
 have hbg:b≠g∧b≠gr:=⟨HS4.out.2.1.ne_ HS4.out.1.rb (by decide),HS4.out.2.1.ne_ HS4.out.1.wr (by decide)⟩
 refine bodyPost_ret (results_cell_row rfl _ _ b 24 _ (0,0) _ rfl hk Tryz.underlying24 rfl (by kernel_rfl)) rfl ⟨(n:Int),ver,rel,at3,e3,rfl,⟨by omega,hn,hv,hv4⟩,?_,?_,?_⟩
 ·exact⟨((HS4.out.1.rb.far hbg.1.symm _).far hbg.1.symm _).far hbg.1.symm _,((HS4.out.1.wr.far hbg.2.symm _).far hbg.2.symm _).far hbg.2.symm _,HS4.out.1.hat,HS4.out.1.hs⟩
 ·exact Al HR2.out (Al HR3.out (Ds HR4.out))
 ·have hb0:=HBg.out
  exact((HS4.out.2.2.setCell (p:=⟨b,0,none⟩) (fun h=>absurd h (by show¬b<_;omega)) _).setCell (p:=⟨b,1,none⟩) (fun h=>absurd h (by show¬b<_;omega)) _).setCell (p:=⟨b,2,none⟩) (fun h=>absurd h (by show¬b<_;omega)) _
theorem RSt.set {g gr:Nat} {s:ByteArray} {left:Int} {at_:Nat} {e:Int} {w:World} (h:RSt g gr s left at_ e w) {p:Addr} (h1:p.block≠g) (h2:p.block≠gr) (v:Value):RSt g gr s left at_ e (w.setCell p v):=
 ⟨h.rb.far h1.symm _,h.wr.far h2.symm _,h.hat,h.hs⟩
theorem Bh {F:Nat→Prop} {a w:World} (h:Ae F a w) {p:Addr} (hp:a.heap.size≤p.block) (v:Value):Ae F a (w.setCell p v):=h.setCell (fun h=>absurd h (by omega)) v
abbrev IY:Array Value:= #[.string ⟨#[]⟩,.int .u8 0,.int .i64 0,.string ⟨#[]⟩,.string ⟨#[]⟩]
abbrev PP (d:Ax):Array Value:= #[.string d.name,.int .u8 d.op,.int .i64 d.ep,.string d.ver,.string d.rel]
structure DSt (w:World) (b bd:Nat) (c:Array Value) (g gr:Nat) (s:ByteArray) (left:Int) (at_:Nat) (e:Int) (W:World):Prop where
 rs:RSt g gr s left at_ e W
 rz:Blk W b 32 IY
 rd:Blk W bd 32 c
 tt:Ae (RF g gr) w W
 lo:w.heap.size≤b
 ld:w.heap.size≤bd
 nb:b≠bd
theorem DSt.call {w:World} {b bd:Nat} {c:Array Value} {g gr:Nat} {s:ByteArray} {left:Int} {at_ at2:Nat} {e e2:Int} {W W':World} (h:DSt w b bd c g gr s left at_ e W) (hr:RSt g gr s left at2 e2 W') (ht:Ae (RF g gr) W W'):DSt w b bd c g gr s left at2 e2 W':=
 ⟨hr,h.rs.far ht h.rz (by decide) (by decide),h.rs.far ht h.rd (by decide) (by decide),h.tt.trans ht fun _ _ h=>h,h.lo,h.ld,h.nb⟩
theorem DSt.ne {w:World} {b bd:Nat} {c:Array Value} {g gr:Nat} {s:ByteArray} {left:Int} {at_:Nat} {e:Int} {W:World} (h:DSt w b bd c g gr s left at_ e W):(b≠g∧b≠gr)∧(bd≠g∧bd≠gr):=
 ⟨⟨h.rz.ne_ h.rs.rb (by decide),h.rz.ne_ h.rs.wr (by decide)⟩,h.rd.ne_ h.rs.rb (by decide),h.rd.ne_ h.rs.wr (by decide)⟩
theorem DSt.set {w:World} {b bd:Nat} {c:Array Value} {g gr:Nat} {s:ByteArray} {left:Int} {at_:Nat} {e:Int} {W:World} (h:DSt w b bd c g gr s left at_ e W) (i:Nat) (v:Value):DSt w b bd (c.setIfInBounds i v) g gr s left at_ e (W.setCell ⟨bd,i,none⟩ v):=
 ⟨h.rs.set h.ne.2.1 h.ne.2.2 v,h.rz.far h.nb v,h.rd.set_ i v,Bh h.tt h.ld v,h.lo,h.ld,h.nb⟩
theorem DSt.done {w:World} {b bd:Nat} {d:Ax} {g gr:Nat} {s:ByteArray} {left:Int} {at_:Nat} {e:Int} {W:World} (h:DSt w b bd (PP d) g gr s left at_ e W):
 ∃W',W'=((((W.setCell ⟨b,0,none⟩ (.string d.name)).setCell ⟨b,1,none⟩ (.int .u8 d.op)).setCell ⟨b,2,none⟩ (.int .i64 d.ep)).setCell ⟨b,3,none⟩ (.string d.ver)).setCell ⟨b,4,none⟩ (.string d.rel)∧Blk W' b 32 (PP d)∧RSt g gr s left at_ e W'∧Ae (RF g gr) w W':=by
 obtain⟨⟨h1,h2⟩,_⟩:=h.ne
 have hl:=h.lo
 refine⟨_,rfl,((((h.rz.set_ 0 _).set_ 1 _).set_ 2 _).set_ 3 _).set_ 4 _,((((h.rs.set h1 h2 _).set h1 h2 _).set h1 h2 _).set h1 h2 _).set h1 h2 _,?_⟩
 exact Bh (Bh (Bh (Bh (Bh h.tt (by exact hl) _) (by exact hl) _) (by exact hl) _) (by exact hl) _) (by exact hl) _
theorem Ic {g gr:Nat} {s:ByteArray} {left:Int} {at_:Nat} {e:Int} {w:World} (h:RSt g gr s left at_ e w):Calls Tryz.prog 167 #[.pointer (some ⟨g,0,none⟩)] w (Cg g gr s left at_ e GZ VD w):=by
 obtain⟨b,hbe⟩:∃b,b=w.heap.size:=⟨_,rfl⟩
 obtain⟨w1,hw1⟩:∃w1,w1=w.alloc (.cells IY 32):=⟨_,rfl⟩
 have hb1:Below w.heap.size w w1:=by rw[hw1];exact Ag _ _
 have hx1:Blk w1 b 32 IY:=by rw[hw1,hbe];exact Blk.new _ _ _
 have HS1:=Hd (show RSt g gr s left at_ e w1∧Blk w1 b 32 IY∧Ae (RF g gr) w w1∧w1.heap.size=b+1 from⟨h.below hb1,hx1,Ae.of_below hb1 _,by rw[hw1,hbe];simp⟩)
 have HLo:=Hd (show w.heap.size≤b by omega)
 have HN:=Hd (CK HS1.out.1)
 clear h hb1 hx1
 go_enter Tryz.func167,Tryz.ntmps167
 go_upto_region 1 with fail
 rw[←hw1,←hbe]
 have HG:=Hd hbe
 clear hw1 hbe
 go_upto_region 2 with (first
  |(go_at_call 133;(with_reducible refine HN.out.mono ?_);rintro r w2 ⟨nm,v2,at1,e1,rfl,⟨rfl,hnm⟩,hs2,hr2,ht2⟩;have HQ2:=Hd (show RSt g gr s left at1 e1 w2∧Res (B6 64) s at_ e nm at1 e1∧Ae (RF g gr) w1 w2 from⟨hs2,hr2,ht2⟩);clear hs2 hr2 ht2)
  |fail)
 have HS2x:=Hd (show RSt g gr s left at1 e1 w2∧Blk w2 b 32 IY∧Ae (RF g gr) w w2∧b+1≤w2.heap.size from⟨HQ2.out.1,HS1.out.1.far HQ2.out.2.2 HS1.out.2.1 (by decide) (by decide),HS1.out.2.2.1.trans HQ2.out.2.2 fun _ _ h=>h,by have:=HQ2.out.2.2.size;have:=HS1.out.2.2.2;omega⟩)
 obtain⟨bd,hbd⟩:∃bd,bd=w2.heap.size:=⟨_,rfl⟩
 obtain⟨w3,hw3⟩:∃w3,w3=w2.alloc (.cells #[.string nm,.int .u8 0,.int .i64 0,.string ⟨#[]⟩,.string ⟨#[]⟩] 32):=⟨_,rfl⟩
 have hb3:Below w2.heap.size w2 w3:=by rw[hw3];exact Ag _ _
 have hx3:Blk w3 bd 32 #[.string nm,.int .u8 0,.int .i64 0,.string ⟨#[]⟩,.string ⟨#[]⟩]:=by rw[hw3,hbd];exact Blk.new _ _ _
 have HD3:=Hd (show DSt w b bd #[.string nm,.int .u8 0,.int .i64 0,.string ⟨#[]⟩,.string ⟨#[]⟩] g gr s left at1 e1 w3 from⟨HS2x.out.1.below hb3,HS2x.out.2.1.below hb3 HS2x.out.2.1.lt,hx3,HS2x.out.2.2.1.trans (Ae.of_below hb3 (RF g gr)) fun _ _ h=>h,HLo.out,by rw[hbd];exact HS2x.out.2.2.1.size,by have:=HS2x.out.2.2.2;omega⟩)
 have HR2:=Hd HQ2.out.2.1
 have HN3:=Hd (Bv 0 6 (by decide) HD3.out.rs)
 have c0:w3.cell? ⟨g,0,none⟩=some (.pointer (some ⟨gr,0,none⟩)):=HD3.out.rs.rb.cell 0
 rw[←hw3,←hbd]
 have HBD:=Hd hbd
 clear hw3 hbd hb3 hx3 HS2x HQ2 HS1 HN
 go_upto_region 3 with (first
  |(go_at_call 83;(with_reducible refine HN3.out.mono ?_);rintro r w4 ⟨op,at2,e2,rfl,hop,hs4,hr4,ht4,hl4,hz4⟩;have HD4:=Hd (HD3.out.call hs4 ht4);have HR4:=Hd hr4;have HZ4:=Hd hz4;have z0:w4.cell? ⟨b,0,none⟩=some (.string ⟨#[]⟩):=HD4.out.rz.cell 0;have zf0:=HD4.out.rz.frozen 0;have y0:w4.cell? ⟨bd,0,none⟩=some (.string nm):=HD4.out.rd.cell 0;have yf0:=HD4.out.rd.frozen 0;have z1:w4.cell? ⟨b,1,none⟩=some (.int .u8 0):=HD4.out.rz.cell 1;have zf1:=HD4.out.rz.frozen 1;have y1:w4.cell? ⟨bd,1,none⟩=some (.int .u8 0):=HD4.out.rd.cell 1;have yf1:=HD4.out.rd.frozen 1;have z2:w4.cell? ⟨b,2,none⟩=some (.int .i64 0):=HD4.out.rz.cell 2;have zf2:=HD4.out.rz.frozen 2;have y2:w4.cell? ⟨bd,2,none⟩=some (.int .i64 0):=HD4.out.rd.cell 2;have yf2:=HD4.out.rd.frozen 2;have z3:w4.cell? ⟨b,3,none⟩=some (.string ⟨#[]⟩):=HD4.out.rz.cell 3;have zf3:=HD4.out.rz.frozen 3;have y3:w4.cell? ⟨bd,3,none⟩=some (.string ⟨#[]⟩):=HD4.out.rd.cell 3;have yf3:=HD4.out.rd.frozen 3;have z4:w4.cell? ⟨b,4,none⟩=some (.string ⟨#[]⟩):=HD4.out.rz.cell 4;have zf4:=HD4.out.rz.frozen 4;have y4:w4.cell? ⟨bd,4,none⟩=some (.string ⟨#[]⟩):=HD4.out.rd.cell 4;have yf4:=HD4.out.rd.frozen 4;have zl:b<w4.heap.size:=HD4.out.rz.lt;have yl:bd<w4.heap.size:=HD4.out.rd.lt;clear hs4 hr4 ht4 hl4 hz4;have hwr8:IntKind.u8.wrap (op:Int)=(op:Int):=by(rw[IntKind.wrap_u8'];omega))
  |fail)
 have HD5:=Hd (show DSt w b bd #[.string nm,.int .u8 (op:Int),.int .i64 0,.string ⟨#[]⟩,.string ⟨#[]⟩] g gr s left at2 e2 (w4.setCell ⟨bd,1,none⟩ (.int .u8 (op:Int)))from HD4.out.set 1 (.int .u8 (op:Int)))
 obtain⟨w5,hw5⟩:∃w5,w5=w4.setCell ⟨bd,1,none⟩ (.int .u8 (op:Int)):=⟨_,rfl⟩
 rw[←hw5]at HD5
 clear z0 zf0 y0 yf0 z1 zf1 y1 yf1 z2 zf2 y2 yf2 z3 zf3 y3 yf3 z4 zf4 y4 yf4 zl yl c0
 have z0:w5.cell? ⟨b,0,none⟩=some (.string ⟨#[]⟩):=HD5.out.rz.cell 0
 have zf0:=HD5.out.rz.frozen 0
 have y0:w5.cell? ⟨bd,0,none⟩=some (.string nm):=HD5.out.rd.cell 0
 have yf0:=HD5.out.rd.frozen 0
 have z1:w5.cell? ⟨b,1,none⟩=some (.int .u8 0):=HD5.out.rz.cell 1
 have zf1:=HD5.out.rz.frozen 1
 have y1:w5.cell? ⟨bd,1,none⟩=some (.int .u8 (op:Int)):=HD5.out.rd.cell 1
 have yf1:=HD5.out.rd.frozen 1
 have z2:w5.cell? ⟨b,2,none⟩=some (.int .i64 0):=HD5.out.rz.cell 2
 have zf2:=HD5.out.rz.frozen 2
 have y2:w5.cell? ⟨bd,2,none⟩=some (.int .i64 0):=HD5.out.rd.cell 2
 have yf2:=HD5.out.rd.frozen 2
 have z3:w5.cell? ⟨b,3,none⟩=some (.string ⟨#[]⟩):=HD5.out.rz.cell 3
 have zf3:=HD5.out.rz.frozen 3
 have y3:w5.cell? ⟨bd,3,none⟩=some (.string ⟨#[]⟩):=HD5.out.rd.cell 3
 have yf3:=HD5.out.rd.frozen 3
 have z4:w5.cell? ⟨b,4,none⟩=some (.string ⟨#[]⟩):=HD5.out.rz.cell 4
 have zf4:=HD5.out.rz.frozen 4
 have y4:w5.cell? ⟨bd,4,none⟩=some (.string ⟨#[]⟩):=HD5.out.rd.cell 4
 have yf4:=HD5.out.rd.frozen 4
 have zl:b<w5.heap.size:=HD5.out.rz.lt
 have yl:bd<w5.heap.size:=HD5.out.rd.lt
 rw[←hw5]
 clear hw5 HD4 HD3 HN3
 by_cases h0:op=0
 ·subst h0
  have HD6:=Hd (show DSt w b bd (PP ⟨nm,0,0,⟨#[]⟩,⟨#[]⟩⟩) g gr s left at2 e2 w5 from HD5.out)
  have y1':w5.cell? ⟨bd,1,none⟩=some (.int .u8 0):=y1
  clear y1
  go_wp2_with fail
  obtain⟨W',hW',k1,k2,k3⟩:=HD6.out.done
  exact bodyPost_ret (results_cell_row rfl _ _ b 32 _ (0,0) _ rfl (hW'▸k1) Tryz.underlying32 rfl (by kernel_rfl)) rfl ⟨⟨nm,0,0,⟨#[]⟩,⟨#[]⟩⟩,_,at2,e2,rfl,⟨rfl,hnm,⟨show(0:Int)≤0 by decide,show(0:Int)<256 by decide⟩,⟨show(0:Int)≤0 by decide,show(0:Int)≤2147483647 by decide⟩,show(⟨#[]⟩:ByteArray).size≤64 by decide,show(⟨#[]⟩:ByteArray).size≤64 by decide⟩,hW'▸k2,Al HR2.out (Al HR4.out (A5 _)),hW'▸k3⟩
 ·have hd0:((op:Int)==0)=false:=by simp;omega
  have hd1:((op:Int) !=0)=true:=by simp;omega
  go_upto_region 4 with fail
  have HN5:=Hd (Ib HD5.out.rs)
  go_upto_region 5 with (first
   |(go_at_call 134;(with_reducible refine HN5.out.mono ?_);rintro r w6 ⟨ep,ver,rel,at3,e3,rfl,⟨hx0,hx1,hx2,hx3⟩,hs6,hr6,ht6⟩;have HD6:=Hd (HD5.out.call hs6 ht6);have HR6:=Hd hr6;clear z0 zf0 y0 yf0 z1 zf1 y1 yf1 z2 zf2 y2 yf2 z3 zf3 y3 yf3 z4 zf4 y4 yf4 zl yl;have z0:w6.cell? ⟨b,0,none⟩=some (.string ⟨#[]⟩):=HD6.out.rz.cell 0;have zf0:=HD6.out.rz.frozen 0;have y0:w6.cell? ⟨bd,0,none⟩=some (.string nm):=HD6.out.rd.cell 0;have yf0:=HD6.out.rd.frozen 0;have z1:w6.cell? ⟨b,1,none⟩=some (.int .u8 0):=HD6.out.rz.cell 1;have zf1:=HD6.out.rz.frozen 1;have y1:w6.cell? ⟨bd,1,none⟩=some (.int .u8 (op:Int)):=HD6.out.rd.cell 1;have yf1:=HD6.out.rd.frozen 1;have z2:w6.cell? ⟨b,2,none⟩=some (.int .i64 0):=HD6.out.rz.cell 2;have zf2:=HD6.out.rz.frozen 2;have y2:w6.cell? ⟨bd,2,none⟩=some (.int .i64 0):=HD6.out.rd.cell 2;have yf2:=HD6.out.rd.frozen 2;have z3:w6.cell? ⟨b,3,none⟩=some (.string ⟨#[]⟩):=HD6.out.rz.cell 3;have zf3:=HD6.out.rz.frozen 3;have y3:w6.cell? ⟨bd,3,none⟩=some (.string ⟨#[]⟩):=HD6.out.rd.cell 3;have yf3:=HD6.out.rd.frozen 3;have z4:w6.cell? ⟨b,4,none⟩=some (.string ⟨#[]⟩):=HD6.out.rz.cell 4;have zf4:=HD6.out.rz.frozen 4;have y4:w6.cell? ⟨bd,4,none⟩=some (.string ⟨#[]⟩):=HD6.out.rd.cell 4;have yf4:=HD6.out.rd.frozen 4;have zl:b<w6.heap.size:=HD6.out.rz.lt;have yl:bd<w6.heap.size:=HD6.out.rd.lt;clear hs6 hr6 ht6)
   |fail)
  obtain⟨w7,hw7⟩:∃w7,w7=((w6.setCell ⟨bd,2,none⟩ (.int .i64 ep)).setCell ⟨bd,3,none⟩ (.string ver)).setCell ⟨bd,4,none⟩ (.string rel):=⟨_,rfl⟩
  have HD7:=Hd (show DSt w b bd (PP ⟨nm,(op:Int),ep,ver,rel⟩) g gr s left at3 e3 w7 from hw7▸((HD6.out.set 2 (.int .i64 ep)).set 3 (.string ver)).set 4 (.string rel))
  clear z0 zf0 y0 yf0 z1 zf1 y1 yf1 z2 zf2 y2 yf2 z3 zf3 y3 yf3 z4 zf4 y4 yf4 zl yl
  have z0:w7.cell? ⟨b,0,none⟩=some (.string ⟨#[]⟩):=HD7.out.rz.cell 0
  have zf0:=HD7.out.rz.frozen 0
  have y0:w7.cell? ⟨bd,0,none⟩=some (.string nm):=HD7.out.rd.cell 0
  have yf0:=HD7.out.rd.frozen 0
  have z1:w7.cell? ⟨b,1,none⟩=some (.int .u8 0):=HD7.out.rz.cell 1
  have zf1:=HD7.out.rz.frozen 1
  have y1:w7.cell? ⟨bd,1,none⟩=some (.int .u8 (op:Int)):=HD7.out.rd.cell 1
  have yf1:=HD7.out.rd.frozen 1
  have z2:w7.cell? ⟨b,2,none⟩=some (.int .i64 0):=HD7.out.rz.cell 2
  have zf2:=HD7.out.rz.frozen 2
  have y2:w7.cell? ⟨bd,2,none⟩=some (.int .i64 ep):=HD7.out.rd.cell 2
  have yf2:=HD7.out.rd.frozen 2
  have z3:w7.cell? ⟨b,3,none⟩=some (.string ⟨#[]⟩):=HD7.out.rz.cell 3
  have zf3:=HD7.out.rz.frozen 3
  have y3:w7.cell? ⟨bd,3,none⟩=some (.string ver):=HD7.out.rd.cell 3
  have yf3:=HD7.out.rd.frozen 3
  have z4:w7.cell? ⟨b,4,none⟩=some (.string ⟨#[]⟩):=HD7.out.rz.cell 4
  have zf4:=HD7.out.rz.frozen 4
  have y4:w7.cell? ⟨bd,4,none⟩=some (.string rel):=HD7.out.rd.cell 4
  have yf4:=HD7.out.rd.frozen 4
  have zl:b<w7.heap.size:=HD7.out.rz.lt
  have yl:bd<w7.heap.size:=HD7.out.rd.lt
  rw[←hw7]
  clear hw7 HD6 HD5 HN5
  go_wp2_with fail
  obtain⟨W',hW',k1,k2,k3⟩:=HD7.out.done
  exact bodyPost_ret (results_cell_row rfl _ _ b 32 _ (0,0) _ rfl (hW'▸k1) Tryz.underlying32 rfl (by kernel_rfl)) rfl ⟨⟨nm,(op:Int),ep,ver,rel⟩,_,at3,e3,rfl,⟨rfl,hnm,⟨show(0:Int)≤(op:Int) by omega,show(op:Int)<256 by omega⟩,⟨hx0,hx1⟩,hx2,hx3⟩,hW'▸k2,Al HR2.out (Al HR4.out (by rw[if_neg h0];exact Al HR6.out (A5 _))),hW'▸k3⟩
structure DR (g:Nat) (s:ByteArray) (at_:Nat) (e:Int) (w:World):Prop where
 rb:Blk w g 105 (RB s at_ e)
 hat:at_≤s.size
 hs:s.size≤140737488351232
theorem DR.below {g:Nat} {s:ByteArray} {a:Nat} {e:Int} {w w':World} (h:DR g s a e w) (hb:Below w.heap.size w w'):DR g s a e w':=⟨h.rb.below hb h.rb.lt,h.hat,h.hs⟩
theorem DR.far {g b i:Nat} {s:ByteArray} {a:Nat} {e:Int} {w:World} {v:Value} (h:DR g s a e w) (hb:g≠b):DR g s a e (w.setCell ⟨b,i,none⟩ v):=⟨h.rb.far hb v,h.hat,h.hs⟩
theorem DE {g:Nat} {s:ByteArray} {at_:Nat} {e:Int} {w:World} (h:DR g s at_ e w) (lo hi:Int) (hh:0≤hi):Calls Tryz.prog 57 #[.pointer (some ⟨g,0,none⟩),.int .i64 lo,.int .i64 hi] w
 fun r w'=>∃(n:Nat) (at2:Nat) (e2:Int),r= .returned (.int .i64 n)∧(n:Int)≤hi∧DR g s at2 e2 w'∧Res (Cc lo hi) s at_ e n at2 e2∧Ae (·=g) w w'∧(e2=0→lo≤(n:Int))∧(e2≠0→n=0):=by
 obtain⟨n,h1,h2,h3,h4,h5,h6⟩:=Lq (s:=s) (at_:=at_) (e:=e) (lo:=lo) (hi:=hi) h.hat hh
 refine(JV g s at_ e lo hi w h.rb h.hat h.hs).mono ?_
 rintro r w' ⟨rfl,k2,k3⟩
 exact⟨n,_,_,by rw[h1],h2,⟨k2,h4,h.hs⟩,h3,k3,h5,h6⟩
theorem EZ {g:Nat} {s:ByteArray} {at_:Nat} {e:Int} {w:World} (h:DR g s at_ e w) (hi:Int) (hh:0≤hi):Calls Tryz.prog 105 #[.pointer (some ⟨g,0,none⟩),.int .i64 hi] w
 fun r w'=>∃(t:ByteArray) (at2:Nat) (e2:Int),r= .returned (.string t)∧(t.size:Int)≤hi∧DR g s at2 e2 w'∧Res (B6 hi) s at_ e t at2 e2∧Ae (·=g) w w':=by
 obtain⟨h1,h2,h3⟩:=Jc (s:=s) (at_:=at_) (e:=e) (hi:=hi) h.hat hh
 refine(MP g s at_ e hi w h.rb h.hat h.hs).mono ?_
 rintro r w' ⟨rfl,k2,k3⟩
 exact⟨_,_,_,rfl,h1,⟨k2,h3,h.hs⟩,h2,k3⟩
structure QSt (t:TypeId) (z:Array Value) (w:World) (g:Nat) (s:ByteArray) (a:Nat) (e:Int) (c:Array Value) (W:World):Prop where
 ds:DR g s a e W
 br:Blk W w.heap.size t z
 bx:Blk W (w.heap.size+1) t c
 tc:Ae (·=g) w W
 lt:g<w.heap.size
section
variable {t:TypeId} {z c:Array Value} {w W W':World} {g:Nat} {s:ByteArray} {a a':Nat} {e e':Int}
theorem QSt.call (h:QSt t z w g s a e c W) (hr:DR g s a' e' W') (ht:Ae (·=g) W W'):QSt t z w g s a' e' c W':=
 ⟨hr,h.br.touch ht (by have:=h.lt;omega),h.bx.touch ht (by have:=h.lt;omega),h.tc.trans ht fun _ _ h=>h,h.lt⟩
theorem QSt.below (h:QSt t z w g s a e c W) (hb:Below W.heap.size W W'):QSt t z w g s a e c W':=h.call (h.ds.below hb) (Ae.of_below hb _)
theorem QSt.set (h:QSt t z w g s a e c W) (i:Nat) (v:Value):QSt t z w g s a e (c.setIfInBounds i v) (W.setCell ⟨w.heap.size+1,i,none⟩ v):=
 ⟨h.ds.far (by have:=h.lt;omega),h.br.far (by show w.heap.size≠w.heap.size+1;omega) v,h.bx.set_ i v,h.tc.setCell (p:=⟨w.heap.size+1,i,none⟩) (fun k=>absurd k (by show¬w.heap.size+1<w.heap.size;omega)) v,h.lt⟩
theorem QSt.start (h:DR g s a e w) (t:TypeId) (z:Array Value):QSt t z w g s a e z ((w.alloc (.cells z t)).alloc (.cells z t)):=by
 have hb:=Aa (Ag w (.cells z t)) (Ag (w.alloc (.cells z t)) (.cells z t))
 have h2:=Blk.new (w.alloc (.cells z t)) t z
 rw[World.size_alloc]at h2
 exact⟨h.below hb,(Blk.new w t z).below (Ag _ _) (Blk.new w t z).lt,h2,Ae.of_below hb _,h.rb.lt⟩
theorem QSt.done (h:QSt t z w g s a e c W) (_hz:z.size=c.size):Blk (W.setRow w.heap.size c) w.heap.size t c∧DR g s a e (W.setRow w.heap.size c)∧Ae (·=g) w (W.setRow w.heap.size c):=
 ⟨h.br.row c,⟨h.ds.rb.keep (setRow_other W w.heap.size g c (by have:=h.lt;omega)),h.ds.hat,h.ds.hs⟩,h.tc.setRow (fun k=>absurd k (by omega)) c⟩
end
theorem Fq {g:Nat} {s:ByteArray} {at_:Nat} {e:Int} {w:World} (h:DR g s at_ e w):Calls Tryz.prog 106 #[.pointer (some ⟨g,0,none⟩)] w
 fun ret w'=>∃(ep:Int) (ver rel:ByteArray) (at2:Nat) (e2:Int),ret= .returned (.agg #[.int .i64 ep,.string ver,.string rel])∧(0≤ep∧ep≤2147483647∧ver.size≤64∧rel.size≤64)∧DR g s at2 e2 w'∧Res Nv s at_ e (ep,ver,rel) at2 e2∧Ae (·=g) w w':=by
 have HQ:=Hd (QSt.start h 24 #[.int .i64 0,.string ⟨#[]⟩,.string ⟨#[]⟩])
 obtain⟨b,hb⟩:∃b,b=w.heap.size:=⟨_,rfl⟩
 obtain⟨W,hW⟩:∃W,W=(w.alloc (.cells #[.int .i64 0,.string ⟨#[]⟩,.string ⟨#[]⟩] 24)).alloc (.cells #[.int .i64 0,.string ⟨#[]⟩,.string ⟨#[]⟩] 24):=⟨_,rfl⟩
 rw[←hW]at HQ
 have HN:=Hd (DE HQ.out.ds 0 2147483647 (by decide))
 have HBw:=Hd hb
 clear h
 go_enter Tryz.func106,Tryz.ntmps106
 go_upto_region 2 with fail
 rw[←hW,←hb]
 clear hW hb
 go_upto_region 3 with (first
  |(go_at_call 57;(with_reducible refine HN.out.mono ?_);rintro r w1 ⟨n,at1,e1,rfl,hn,hs1,hr1,ht1,hl1,hz1⟩;have HQ1:=Hd (HQ.out.call hs1 ht1);have HR1:=Hd (And.intro hn hr1);have x0:w1.cell? ⟨b+1,0,none⟩=some (.int .i64 0):=by rw[HBw.out];exact HQ1.out.bx.cell 0
    have xf0:w1.frozen? ⟨b+1,0,none⟩=false:=by rw[HBw.out];exact HQ1.out.bx.frozen 0
    have xl:b+1<w1.heap.size:=by rw[HBw.out];exact HQ1.out.bx.lt
    clear hn hs1 hr1 ht1 hl1 hz1)
  |fail)
 obtain⟨W1,hW1⟩:∃W1,W1=w1.setCell ⟨b+1,0,none⟩ (.int .i64 n):=⟨_,rfl⟩
 have HQ1:=Hd (show QSt 24 _ w g s at1 e1 #[.int .i64 n,.string ⟨#[]⟩,.string ⟨#[]⟩] W1 from by rw[hW1,HBw.out];exact HQ1.out.set 0 (.int .i64 n))
 have HN2:=Hd (EZ HQ1.out.ds 64 (by decide))
 rw[←hW1]
 clear hW1 x0 xf0 xl
 go_upto_region 4 with (first
  |(go_at_call 105;(with_reducible refine HN2.out.mono ?_);rintro r w2 ⟨ver,at2,e2,rfl,hv,hs2,hr2,ht2⟩;have HQ2:=Hd (HQ1.out.call hs2 ht2);have HR2:=Hd (And.intro hv hr2);have x0:w2.cell? ⟨b+1,1,none⟩=some (.string ⟨#[]⟩):=by rw[HBw.out];exact HQ2.out.bx.cell 1
    have xf0:w2.frozen? ⟨b+1,1,none⟩=false:=by rw[HBw.out];exact HQ2.out.bx.frozen 1
    have xl:b+1<w2.heap.size:=by rw[HBw.out];exact HQ2.out.bx.lt
    clear hv hs2 hr2 ht2)
  |fail)
 obtain⟨W2,hW2⟩:∃W2,W2=w2.setCell ⟨b+1,1,none⟩ (.string ver):=⟨_,rfl⟩
 have HQ2:=Hd (show QSt 24 _ w g s at2 e2 #[.int .i64 n,.string ver,.string ⟨#[]⟩] W2 from by rw[hW2,HBw.out];exact HQ2.out.set 1 (.string ver))
 have HN3:=Hd (EZ HQ2.out.ds 64 (by decide))
 rw[←hW2]
 clear hW2 x0 xf0 xl
 go_upto_region 5 with (first
  |(go_at_call 105;(with_reducible refine HN3.out.mono ?_);rintro r w3 ⟨rel,at3,e3,rfl,hv,hs3,hr3,ht3⟩;have HQ3:=Hd (HQ2.out.call hs3 ht3);have HR3:=Hd (And.intro hv hr3);have x0:w3.cell? ⟨b+1,2,none⟩=some (.string ⟨#[]⟩):=by rw[HBw.out];exact HQ3.out.bx.cell 2
    have xf0:w3.frozen? ⟨b+1,2,none⟩=false:=by rw[HBw.out];exact HQ3.out.bx.frozen 2
    have xl:b+1<w3.heap.size:=by rw[HBw.out];exact HQ3.out.bx.lt
    clear hv hs3 hr3 ht3)
  |fail)
 obtain⟨W3,hW3⟩:∃W3,W3=w3.setCell ⟨b+1,2,none⟩ (.string rel):=⟨_,rfl⟩
 have HQ3:=Hd (show QSt 24 _ w g s at3 e3 #[.int .i64 n,.string ver,.string rel] W3 from by rw[hW3,HBw.out];exact HQ3.out.set 2 (.string rel))
 rw[←hW3]
 clear hW3 x0 xf0 xl
 have x0:W3.cell? ⟨b+1,0,none⟩=some (.int .i64 n):=by rw[HBw.out];exact HQ3.out.bx.cell 0
 have x1:W3.cell? ⟨b+1,1,none⟩=some (.string ver):=by rw[HBw.out];exact HQ3.out.bx.cell 1
 have x2:W3.cell? ⟨b+1,2,none⟩=some (.string rel):=by rw[HBw.out];exact HQ3.out.bx.cell 2
 have xl:b+1<W3.heap.size:=by rw[HBw.out];exact HQ3.out.bx.lt
 have HBr:=Hd (show Blk W3 b 24 #[.int .i64 0,.string ⟨#[]⟩,.string ⟨#[]⟩]from by rw[HBw.out];exact HQ3.out.br)
 go_wp2_with (first
  |(refine wpList_store_rowTo rfl 24 (.tmp 2) (.tmp 13) rfl rfl b #[.int .i64 n,.string ver,.string rel] rfl (by kernel_rfl) 24 _ HBr.out (by kernel_rfl) rfl (by kernel_rfl) ?_)
  |fail)
 have HD:=Hd (HQ3.out.done rfl)
 rw[←HBw.out]at HD
 exact bodyPost_ret (results_cell_row rfl _ _ b 24 _ (0,0) _ rfl HD.out.1 Tryz.underlying24 rfl (by kernel_rfl)) rfl ⟨(n:Int),ver,rel,at3,e3,rfl,⟨by omega,HR1.out.1,by have:=HR2.out.1;omega,by have:=HR3.out.1;omega⟩,HD.out.2.1,Al HR1.out.2 (Al HR2.out.2 (Ds HR3.out.2)),HD.out.2.2⟩
open Go.ChangeShapes Go.WideShapes Go.ChangeAt Go.RowKit Go.Deep
structure GSt {α:Type} (K:Kd α) (t:TypeId) (w:World) (g gr:Nat) (s:ByteArray) (left:Int) (a:Nat) (e:Int) (l:List α) (v:Value) (W:World):Prop where
 rs:RSt g gr s left a e W
 ac:Acc K t w.heap.size W l v
 tt:Ae (RF g gr) w W
 lt:g<w.heap.size∧gr<w.heap.size
section
variable {α:Type} {K:Kd α} {t:TypeId} {w W W':World} {g gr:Nat} {s:ByteArray} {left left':Int} {a a':Nat} {e e':Int} {l:List α} {v:Value}
theorem GSt.call (h:GSt K t w g gr s left a e l v W) (hr:RSt g gr s left' a' e' W') (ht:Ae (RF g gr) W W'):GSt K t w g gr s left' a' e' l v W':=
 ⟨hr,h.ac.keep ht.size fun b h1 h2=>ht.block b h2 (by have:=h.lt;rintro(e|e)<;>omega),h.tt.trans ht fun _ _ h=>h,h.lt⟩
theorem GSt.below (h:GSt K t w g gr s left a e l v W) (hb:Below W.heap.size W W'):GSt K t w g gr s left a e l v W':=h.call (h.rs.below hb) (Ae.of_below hb _)
theorem GSt.drewN (h:GSt K t w g gr s left a e l v W) (n:Nat):GSt K t w g gr s left a e l v (W.drewN n):=h.call (h.rs.drewN n) ((Ae.refl _ _).drewN n)
theorem GSt.own (h:GSt K t w g gr s left a e l v W):∃b,v.ownBlock=some b→w.heap.size≤b∧b<W.heap.size:=by
 obtain⟨ps,h1,h2,h3,h4⟩:=h.ac.ex
 cases hv:v.ownBlock with
 |none=>exact⟨0,fun h=>by cases h⟩
 |some b=>exact⟨b,fun _=>⟨h3 b hv,h2.lt b hv⟩⟩
theorem GSt.ownB (h:GSt K t w g gr s left a e l v W) (b:Nat) (hb:v.ownBlock=some b):w.heap.size≤b∧b<W.heap.size:=by
 obtain⟨ps,h1,h2,h3,h4⟩:=h.ac.ex
 exact⟨h3 b hb,h2.lt b hb⟩
theorem GSt.push {x:α} {r:K.R} {xs:List Value} {v':Value} {m0:Nat} (h:GSt K t w g gr s left a e l v W) (hown:Own W t K.size v l.length xs) (hm:w.heap.size≤m0) (hv:∀b,v.ownBlock=some b→b<m0) (hx:K.holds (Am m0) W x r)
 (hO:Own W' t K.size v' (l.length+1) (xs++K.cells x r)) (hg:W.grownBy W' v.ownBlock) (hat:v'.ownBlock=v.ownBlock∨v'.ownBlock=some W.heap.size):GSt K t w g gr s left a e (l++ [x]) v' W':=by
 have hne:∀b,b<w.heap.size→v.ownBlock≠some b:=fun b hb e=>by have:=(h.ownB b e).1;omega
 refine⟨⟨h.rs.rb.grown hg (fun e=>hne _ h.lt.1 e.symm),h.rs.wr.grown hg (fun e=>hne _ h.lt.2 e.symm),h.rs.hat,h.rs.hs⟩,Acc.push hown h.ac hm hx hv h.tt.size hO hg hat,h.tt.trans (Ae.of_grown (F:=fun k=>v.ownBlock=some k) hg fun k e=>e) fun x hx e=>absurd e (hne x hx),h.lt⟩
theorem Cl {n:Nat} {xs:List Value} {size:Nat} {T:TypeId} (h:Own W T size v n xs):∃ao cp,v= .slice ao n cp:=by
 obtain⟨ao,cp,e,_⟩:=h.form
 exact⟨ao,cp,e⟩
end
def GGo {α:Type} (p:Rdr α) (lo hi:Int) (s:ByteArray) (at_:Nat) (e:Int) (m:Nat) (l:List α) (a:Nat) (e1:Int):Prop:=∀x at2 e2,Res (Nu p m) s a e1 x at2 e2→Res (Cd lo hi p) s at_ e (l++x) at2 e2
section
variable {α:Type} {p:Rdr α} {lo hi:Int} {s:ByteArray} {at_:Nat} {e:Int} {m:Nat} {l:List α} {a a2:Nat} {e1 e2:Int} {n:Nat} {x:α}
theorem GGo.start (h:Res (Cc lo hi) s at_ e n a e1):GGo p lo hi s at_ e n [] a e1:=fun _ _ _ k=>Al h k
theorem GGo.step (h:GGo p lo hi s at_ e (m+1) l a e1) (k:Res p s a e1 x a2 e2):GGo p lo hi s at_ e m (l++ [x]) a2 e2:=fun y at3 e3 hy=>by
 rw[List.append_assoc]
 exact h _ _ _ (Al k (Ds hy))
theorem GGo.bad (h:GGo p lo hi s at_ e (m+1) l a e1) (k:Res p s a e1 x a2 e2) (h2:e2≠0):Res (Cd lo hi p) s at_ e ([]:List α) a2 e2:=((h.step k) [] a2 e2 (.inl ⟨h2,rfl,rfl⟩)).bad h2
theorem GGo.done (h:GGo p lo hi s at_ e 0 l a e1):Res (Cd lo hi p) s at_ e l a e1:=by
 have:=h [] a e1 (A5 [])
 rwa [List.append_nil]at this
end
theorem Co {α:Type} {K:Kd α} {n0:Nat} {w w':World} {x:α} {r:K.R} (h:K.holds (Am n0) w x r) (hb:Below w.heap.size w w'):K.holds (Am n0) w' x r:=
 K.keep h hb.size fun b ⟨k1,k2⟩ k4=>⟨hb.block b k4,k1,fun i=>(World.frozen?_of_block (w:=w) (hb.block b k4)).trans (k2 i)⟩
theorem QY:∃i,Tryz.prog.info? 9=some i∧i.zero=some (.string ⟨#[]⟩)∧i.size=1∧i.bytes=16:=
 info_parts (P:=Tryz.prog) (e:=9) (z:= .string ⟨#[]⟩) (size:=1) (bytes:=16) (by kernel_rfl)
theorem NT {g gr:Nat} {s:ByteArray} {left:Int} {at_:Nat} {e:Int} {w:World} (lo hi:Int) (hh:0≤hi) (hhi:hi≤1024) (p:Rdr Ax)
 (one:∀(a:Nat) (e:Int) (W:World),RSt g gr s left a e W→Ae (RF g gr) w W→Calls Tryz.prog 167 #[.pointer (some ⟨g,0,none⟩)] W (Cg g gr s left a e p (fun x v w'=>∃r,v=x.val∧AW.holds (Am W.heap.size) w' x r) W))
 (h:RSt g gr s left at_ e w):Calls Tryz.prog 166 #[.pointer (some ⟨g,0,none⟩),.int .i64 lo,.int .i64 hi,.func (.func 167) #[.pointer (some ⟨g,0,none⟩)] #[]] w (Cg g gr s left at_ e (Cd lo hi p) (fun l v w'=>LIn AW (Am w.heap.size) w' l v) w):=by
 have HO:=Hd one
 have HN:=Hd (Bv lo hi hh h)
 have HH:=Hd h
 have c0:w.cell? ⟨g,0,none⟩=some (.pointer (some ⟨gr,0,none⟩)):=h.rb.cell 0
 obtain⟨iD,hiD,hz0,hz1,hz2⟩:=Q0
 clear one h
 go_enter Tryz.func166,Tryz.ntmps166
 go_wp2_with (first
  |(go_at_call 83;(with_reducible refine HN.out.mono ?_);rintro r w1 ⟨n,a1,e1,rfl,hn,hs1,hr1,ht1,hl1,hz1'⟩;have hnb:n≤1024:=(by omega);have HS1:=Hd (show GSt AW 32 w g gr s left a1 e1 [] nV w1 from⟨hs1,Acc.nil _ _ _ _,ht1,HH.out.rb.lt,HH.out.wr.lt⟩);have HG1:=Hd (GGo.start (p:=p) hr1);clear hs1 hr1 ht1 hl1 hz1' hn)
  |fail)
 go_loopw [9,18] (fun v i wr=>∃(k a:Nat) (e1:Int) (l:List Ax),k≤n∧i= .int .i64 k∧Hid (l.length=k∧GSt AW 32 w g gr s left a e1 l v wr∧GGo p lo hi s at_ e (n-k) l a e1)) (fun _ i _=>n-(intOf i).toNat)
 case atStart=>exact⟨0,a1,e1,[],by omega,rfl,⟨rfl,HS1.out,HG1.out⟩⟩
 case round=>
  obtain⟨k,a,e1,l,hk,rfl,HQ⟩:=hrel
  by_cases hlt:k<n
  ·have hki:(k:Int)<(n:Int):=by omega
   have HM:=Hd (HO.out a e1 wr HQ.out.2.1.rs HQ.out.2.1.tt)
   go_upto_region 5 with (first
    |(go_at_call 167;(with_reducible refine HM.out.mono ?_);rintro rr w2 ⟨x,vx,b2,e2,rfl,⟨r,rfl,hx2⟩,hs2,hr2,ht2⟩;have HS2:=Hd (HQ.out.2.1.call hs2 ht2);have HX2:=Hd hx2;have HR2:=Hd hr2;have HT2:=Hd ht2.size;clear hs2 hr2 ht2 hx2)
    |fail)
   obtain⟨b,hbe⟩:∃b,b=w2.heap.size:=⟨_,rfl⟩
   obtain⟨w3,hw3⟩:∃w3,w3=w2.alloc (.cells #[.string x.name,.int .u8 x.op,.int .i64 x.ep,.string x.ver,.string x.rel] 32):=⟨_,rfl⟩
   have hb3:Below w2.heap.size w2 w3:=by rw[hw3];exact Ag _ _
   have HB3:=Hd (show Blk w3 b 32 #[.string x.name,.int .u8 x.op,.int .i64 x.ep,.string x.ver,.string x.rel]from by rw[hw3,hbe];exact Blk.new _ _ _)
   have HS3:=Hd (HS2.out.below hb3)
   have HX3:=Hd (Co HX2.out hb3)
   have HG3:=Hd (show GGo p lo hi s at_ e (n-(k+1)+1) l a e1 from by rw[show n-(k+1)+1=n-k from by omega];exact HQ.out.2.2)
   have HL:=Hd HQ.out.1
   have HF:=Hd (BW HS3.out.rs)
   have HOw:=Hd (fun q hq=>(HQ.out.2.1.ownB q hq).2)
   have HSz:=Hd HQ.out.2.1.tt.size
   rw[←hw3,←hbe]
   clear hw3 hbe hb3 HM HS2 HQ
   by_cases he2:e2=0
   ·have HF1:=Hd (show Calls Tryz.prog 84 #[.pointer (some ⟨g,0,none⟩)] w3 (fun r w'=>r= .returned (.bool true)∧∃n,w'=w3.drewN n)from HF.out.mono fun r w' ⟨h1,h2⟩=>⟨by rw[h1,he2];rfl,h2⟩)
    clear HF
    go_upto_region 7 with (first
     |(go_at_call 84;(with_reducible refine HF1.out.mono ?_);rintro rr w4 ⟨rfl,n4,rfl⟩)
     |fail)
    obtain⟨w4,hw4⟩:∃w4,w4=w3.drewN n4:=⟨_,rfl⟩
    rw[←hw4]
    have HB4:=Hd (show Blk w4 b 32 #[.string x.name,.int .u8 x.op,.int .i64 x.ep,.string x.ver,.string x.rel]from hw4▸HB3.out.drewN n4)
    have HS4:=Hd (show GSt AW 32 w g gr s left b2 e2 l u9 w4 from hw4▸HS3.out.drewN n4)
    have HX4:=Hd (show AW.holds (Am wr.heap.size) w4 x r from hw4▸(show AW.holds (Am wr.heap.size) (w3.drewN n4) x r from Co HX3.out (AD (Below.refl _ _) n4)))
    have z0:w4.cell? ⟨b,0,none⟩=some (.string x.name):=HB4.out.cell 0
    have z1:w4.cell? ⟨b,1,none⟩=some (.int .u8 x.op):=HB4.out.cell 1
    have z2:w4.cell? ⟨b,2,none⟩=some (.int .i64 x.ep):=HB4.out.cell 2
    have z3:w4.cell? ⟨b,3,none⟩=some (.string x.ver):=HB4.out.cell 3
    have z4:w4.cell? ⟨b,4,none⟩=some (.string x.rel):=HB4.out.cell 4
    have bl:b<w4.heap.size:=HB4.out.lt
    obtain⟨xs,hown,hone⟩:=HS4.out.ac.own
    obtain⟨ao,cp,hve⟩:=Cl hown
    have hll:=HL.out
    subst hve
    rw[hll]at hown
    have HO4:=Hd hown
    have HN4:=Hd hone
    clear hw4 HB3 HS3 HX3 HF1 HB4 hown hone
    go_wp2_with (first
     |(at_builtin;(refine AC _ rfl (.tmp 25) (.tmp 27) _ _ rfl 32 iD _ 5 64 Tryz.underlying25 hiD hz0 hz1 hz2 rfl (by omega) (.slice ao l.length cp) l.length xs rfl (hll▸HO4.out.alloc _) HN4.out (.slice (some ⟨w4.heap.size,0,none⟩) 1 1) 1 (AW.cells x r) rfl (Ll w4 x) (by simp only[maxLen];omega) (by omega) ?_);rintro ao' cap' w7 hn1 hn2 hO7 hg7 hat7 hlt7;have hS5:=HS4.out.below (Ag w4 (.cells #[.string x.name,.int .u8 x.op,.int .i64 x.ep,.string x.ver,.string x.rel] 32));have HS7:=Hd (hS5.push (x:=x) (r:=r) (hll▸HO4.out.alloc _) HSz.out HOw.out (Co HX4.out (Ag _ _)) hO7 hg7 hat7);clear hn1 hn2 hO7 hg7 hat7 hlt7 hS5)
     |fail)
    go_roundw
    case rel=>exact⟨k+1,b2,e2,l++ [x],by omega,by go_num,⟨by rw[List.length_append,hll];rfl,by(have h7:=HS7.out;rw[hll]at h7;exact h7),HG3.out.step HR2.out⟩⟩
    case measure=>simp[intOf];omega
   ·have HF1:=Hd (show Calls Tryz.prog 84 #[.pointer (some ⟨g,0,none⟩)] w3 (fun r w'=>r= .returned (.bool false)∧∃n,w'=w3.drewN n)from HF.out.mono fun r w' ⟨h1,h2⟩=>⟨by rw[h1,decide_eq_false he2],h2⟩)
    clear HF
    go_wp2_with (first
     |(go_at_call 84;(with_reducible refine HF1.out.mono ?_);rintro rr w4 ⟨rfl,n4,rfl⟩)
     |fail)
    go_ret
    exact⟨[],_,b2,e2,rfl,LIn.nil _ _ _,HS3.out.rs.drewN n4,HG3.out.bad HR2.out he2,HS3.out.tt.drewN n4⟩
  ·obtain rfl:k=n:=by omega
   go_wp2_with fail
   go_ret
   have hG:=HQ.out.2.2
   rw[Nat.sub_self]at hG
   exact⟨l,u9,a,e1,rfl,HQ.out.2.1.ac.done (by have:=HQ.out.1;omega) (by decide),HQ.out.2.1.rs,hG.done,HQ.out.2.1.tt⟩
theorem NQ {g gr:Nat} {s:ByteArray} {left:Int} {at_:Nat} {e:Int} {w:World} (lo hi:Int) (hh:0≤hi) (hhi:hi≤1024) (p:Rdr ByteArray)
 (one:∀(a:Nat) (e:Int) (W:World),RSt g gr s left a e W→Ae (RF g gr) w W→Calls Tryz.prog 133 #[.pointer (some ⟨g,0,none⟩)] W (Cg g gr s left a e p (fun x v w'=>∃r,v= .string x∧A2.holds (Am W.heap.size) w' x r) W))
 (h:RSt g gr s left at_ e w):Calls Tryz.prog 137 #[.pointer (some ⟨g,0,none⟩),.int .i64 lo,.int .i64 hi,.func (.func 133) #[.pointer (some ⟨g,0,none⟩)] #[]] w (Cg g gr s left at_ e (Cd lo hi p) (fun l v w'=>LIn A2 (Am w.heap.size) w' l v) w):=by
 have HO:=Hd one
 have HN:=Hd (Bv lo hi hh h)
 have HH:=Hd h
 have c0:w.cell? ⟨g,0,none⟩=some (.pointer (some ⟨gr,0,none⟩)):=h.rb.cell 0
 obtain⟨iD,hiD,hz0,hz1,hz2⟩:=QY
 clear one h
 go_enter Tryz.func137,Tryz.ntmps137
 go_wp2_with (first
  |(go_at_call 83;(with_reducible refine HN.out.mono ?_);rintro r w1 ⟨n,a1,e1,rfl,hn,hs1,hr1,ht1,hl1,hz1'⟩;have hnb:n≤1024:=(by omega);have HS1:=Hd (show GSt A2 9 w g gr s left a1 e1 [] nV w1 from⟨hs1,Acc.nil _ _ _ _,ht1,HH.out.rb.lt,HH.out.wr.lt⟩);have HG1:=Hd (GGo.start (p:=p) hr1);clear hs1 hr1 ht1 hl1 hz1' hn)
  |fail)
 go_loopw [9,18] (fun v i wr=>∃(k a:Nat) (e1:Int) (l:List ByteArray),k≤n∧i= .int .i64 k∧Hid (l.length=k∧GSt A2 9 w g gr s left a e1 l v wr∧GGo p lo hi s at_ e (n-k) l a e1)) (fun _ i _=>n-(intOf i).toNat)
 case atStart=>exact⟨0,a1,e1,[],by omega,rfl,⟨rfl,HS1.out,HG1.out⟩⟩
 case round=>
  obtain⟨k,a,e1,l,hk,rfl,HQ⟩:=hrel
  by_cases hlt:k<n
  ·have hki:(k:Int)<(n:Int):=by omega
   have HM:=Hd (HO.out a e1 wr HQ.out.2.1.rs HQ.out.2.1.tt)
   go_upto_region 5 with (first
    |(go_at_call 133;(with_reducible refine HM.out.mono ?_);rintro rr w2 ⟨x,vx,b2,e2,rfl,⟨r,rfl,hx2⟩,hs2,hr2,ht2⟩;have HS2:=Hd (HQ.out.2.1.call hs2 ht2);have HX2:=Hd hx2;have HR2:=Hd hr2;have HT2:=Hd ht2.size;clear hs2 hr2 ht2 hx2)
    |fail)
   obtain⟨w3,hw3⟩:∃w3,w3=w2:=⟨_,rfl⟩
   have hb3:Below w2.heap.size w2 w3:=by rw[hw3];exact Below.refl _ _
   have HS3:=Hd (HS2.out.below hb3)
   have HX3:=Hd (Co HX2.out hb3)
   have HG3:=Hd (show GGo p lo hi s at_ e (n-(k+1)+1) l a e1 from by rw[show n-(k+1)+1=n-k from by omega];exact HQ.out.2.2)
   have HL:=Hd HQ.out.1
   have HF:=Hd (BW HS3.out.rs)
   have HOw:=Hd (fun q hq=>(HQ.out.2.1.ownB q hq).2)
   have HSz:=Hd HQ.out.2.1.tt.size
   rw[←hw3]
   clear hw3 hb3 HM HS2 HQ
   by_cases he2:e2=0
   ·have HF1:=Hd (show Calls Tryz.prog 84 #[.pointer (some ⟨g,0,none⟩)] w3 (fun r w'=>r= .returned (.bool true)∧∃n,w'=w3.drewN n)from HF.out.mono fun r w' ⟨h1,h2⟩=>⟨by rw[h1,he2];rfl,h2⟩)
    clear HF
    go_upto_region 7 with (first
     |(go_at_call 84;(with_reducible refine HF1.out.mono ?_);rintro rr w4 ⟨rfl,n4,rfl⟩)
     |fail)
    obtain⟨w4,hw4⟩:∃w4,w4=w3.drewN n4:=⟨_,rfl⟩
    rw[←hw4]
    have HS4:=Hd (show GSt A2 9 w g gr s left b2 e2 l u9 w4 from hw4▸HS3.out.drewN n4)
    have HX4:=Hd (show A2.holds (Am wr.heap.size) w4 x r from hw4▸(show A2.holds (Am wr.heap.size) (w3.drewN n4) x r from Co HX3.out (AD (Below.refl _ _) n4)))
    obtain⟨xs,hown,hone⟩:=HS4.out.ac.own
    obtain⟨ao,cp,hve⟩:=Cl hown
    have hll:=HL.out
    subst hve
    rw[hll]at hown
    have HO4:=Hd hown
    have HN4:=Hd hone
    clear hw4 HS3 HX3 HF1 hown hone
    go_wp2_with (first
     |(at_builtin;(refine AC _ rfl (.tmp 25) (.tmp 27) _ _ rfl 9 iD _ 1 16 Tryz.underlying27 hiD hz0 hz1 hz2 rfl (by omega) (.slice ao l.length cp) l.length xs rfl (hll▸HO4.out.alloc _) HN4.out (.slice (some ⟨w4.heap.size,0,none⟩) 1 1) 1 (A2.cells x r) rfl (FP w4 Tryz.underlying27 9 _ rfl) (by simp only[maxLen];omega) (by omega) ?_);rintro ao' cap' w7 hn1 hn2 hO7 hg7 hat7 hlt7;have hS5:=HS4.out.below (Ag w4 (.cells #[.string x] 9));have HS7:=Hd (hS5.push (x:=x) (r:=r) (hll▸HO4.out.alloc _) HSz.out HOw.out (Co HX4.out (Ag _ _)) hO7 hg7 hat7);clear hn1 hn2 hO7 hg7 hat7 hlt7 hS5)
     |fail)
    go_roundw
    case rel=>exact⟨k+1,b2,e2,l++ [x],by omega,by go_num,⟨by rw[List.length_append,hll];rfl,by(have h7:=HS7.out;rw[hll]at h7;exact h7),HG3.out.step HR2.out⟩⟩
    case measure=>simp[intOf];omega
   ·have HF1:=Hd (show Calls Tryz.prog 84 #[.pointer (some ⟨g,0,none⟩)] w3 (fun r w'=>r= .returned (.bool false)∧∃n,w'=w3.drewN n)from HF.out.mono fun r w' ⟨h1,h2⟩=>⟨by rw[h1,decide_eq_false he2],h2⟩)
    clear HF
    go_wp2_with (first
     |(go_at_call 84;(with_reducible refine HF1.out.mono ?_);rintro rr w4 ⟨rfl,n4,rfl⟩)
     |fail)
    go_ret
    exact⟨[],_,b2,e2,rfl,LIn.nil _ _ _,HS3.out.rs.drewN n4,HG3.out.bad HR2.out he2,HS3.out.tt.drewN n4⟩
  ·obtain rfl:k=n:=by omega
   go_wp2_with fail
   go_ret
   have hG:=HQ.out.2.2
   rw[Nat.sub_self]at hG
   exact⟨l,u9,a,e1,rfl,HQ.out.2.1.ac.done (by have:=HQ.out.1;omega) (by decide),HQ.out.2.1.rs,hG.done,HQ.out.2.1.tt⟩
theorem MJ {b1 b2 g gr:Nat} {s:ByteArray} {left:Int} {at_:Nat} {e:Int} {w:World} (lo hi:Int) (hh:0≤hi) (hhi:hi≤1024) (p:Rdr Ac)
 (one:∀(a:Nat) (e:Int) (W:World),RSt g gr s left a e W→Ae (RF g gr) w W→Calls Tryz.prog 179 #[.pointer (some ⟨b1,0,none⟩),.pointer (some ⟨b2,0,none⟩)] W (Cg g gr s left a e p (fun x v w'=>∃r,v=x.val r∧Aj.holds (Am W.heap.size) w' x r) W))
 (h:RSt g gr s left at_ e w):Calls Tryz.prog 168 #[.pointer (some ⟨g,0,none⟩),.int .i64 lo,.int .i64 hi,.func (.func 179) #[] #[.pointer (some ⟨b1,0,none⟩),.pointer (some ⟨b2,0,none⟩)]] w (Cg g gr s left at_ e (Cd lo hi p) (fun l v w'=>LIn Aj (Am w.heap.size) w' l v) w):=by
 have HO:=Hd one
 have HN:=Hd (Bv lo hi hh h)
 have HH:=Hd h
 have c0:w.cell? ⟨g,0,none⟩=some (.pointer (some ⟨gr,0,none⟩)):=h.rb.cell 0
 obtain⟨iD,hiD,hz0,hz1,hz2⟩:=Gt
 clear one h
 go_enter Tryz.func168,Tryz.ntmps168
 go_wp2_with (first
  |(go_at_call 83;(with_reducible refine HN.out.mono ?_);rintro r w1 ⟨n,a1,e1,rfl,hn,hs1,hr1,ht1,hl1,hz1'⟩;have hnb:n≤1024:=(by omega);have HS1:=Hd (show GSt Aj 34 w g gr s left a1 e1 [] nV w1 from⟨hs1,Acc.nil _ _ _ _,ht1,HH.out.rb.lt,HH.out.wr.lt⟩);have HG1:=Hd (GGo.start (p:=p) hr1);clear hs1 hr1 ht1 hl1 hz1' hn)
  |fail)
 go_loopw [9,18] (fun v i wr=>∃(k a:Nat) (e1:Int) (l:List Ac),k≤n∧i= .int .i64 k∧Hid (l.length=k∧GSt Aj 34 w g gr s left a e1 l v wr∧GGo p lo hi s at_ e (n-k) l a e1)) (fun _ i _=>n-(intOf i).toNat)
 case atStart=>exact⟨0,a1,e1,[],by omega,rfl,⟨rfl,HS1.out,HG1.out⟩⟩
 case round=>
  obtain⟨k,a,e1,l,hk,rfl,HQ⟩:=hrel
  by_cases hlt:k<n
  ·have hki:(k:Int)<(n:Int):=by omega
   have HM:=Hd (HO.out a e1 wr HQ.out.2.1.rs HQ.out.2.1.tt)
   go_upto_region 5 with (first
    |(go_at_call 179;(with_reducible refine HM.out.mono ?_);rintro rr w2 ⟨x,vx,b2,e2,rfl,⟨r,rfl,hx2⟩,hs2,hr2,ht2⟩;obtain⟨ra,rc,rfl⟩:=(AZ.is hx2).form;have HS2:=Hd (HQ.out.2.1.call hs2 ht2);have HX2:=Hd hx2;have HR2:=Hd hr2;have HT2:=Hd ht2.size;clear hs2 hr2 ht2 hx2)
    |fail)
   obtain⟨b,hbe⟩:∃b,b=w2.heap.size:=⟨_,rfl⟩
   obtain⟨w3,hw3⟩:∃w3,w3=w2.alloc (.cells #[.int .u8 x.kind,.string x.dep.name,.int .u8 x.dep.op,.int .i64 x.dep.ep,.string x.dep.ver,.string x.dep.rel,.slice ra x.n rc] 34):=⟨_,rfl⟩
   have hb3:Below w2.heap.size w2 w3:=by rw[hw3];exact Ag _ _
   have HB3:=Hd (show Blk w3 b 34 #[.int .u8 x.kind,.string x.dep.name,.int .u8 x.dep.op,.int .i64 x.dep.ep,.string x.dep.ver,.string x.dep.rel,.slice ra x.n rc]from by rw[hw3,hbe];exact Blk.new _ _ _)
   have HS3:=Hd (HS2.out.below hb3)
   have HX3:=Hd (Co HX2.out hb3)
   have HG3:=Hd (show GGo p lo hi s at_ e (n-(k+1)+1) l a e1 from by rw[show n-(k+1)+1=n-k from by omega];exact HQ.out.2.2)
   have HL:=Hd HQ.out.1
   have HF:=Hd (BW HS3.out.rs)
   have HOw:=Hd (fun q hq=>(HQ.out.2.1.ownB q hq).2)
   have HSz:=Hd HQ.out.2.1.tt.size
   rw[←hw3,←hbe]
   clear hw3 hbe hb3 HM HS2 HQ
   by_cases he2:e2=0
   ·have HF1:=Hd (show Calls Tryz.prog 84 #[.pointer (some ⟨g,0,none⟩)] w3 (fun r w'=>r= .returned (.bool true)∧∃n,w'=w3.drewN n)from HF.out.mono fun r w' ⟨h1,h2⟩=>⟨by rw[h1,he2];rfl,h2⟩)
    clear HF
    go_upto_region 7 with (first
     |(go_at_call 84;(with_reducible refine HF1.out.mono ?_);rintro rr w4 ⟨rfl,n4,rfl⟩)
     |fail)
    obtain⟨w4,hw4⟩:∃w4,w4=w3.drewN n4:=⟨_,rfl⟩
    rw[←hw4]
    have HB4:=Hd (show Blk w4 b 34 #[.int .u8 x.kind,.string x.dep.name,.int .u8 x.dep.op,.int .i64 x.dep.ep,.string x.dep.ver,.string x.dep.rel,.slice ra x.n rc]from hw4▸HB3.out.drewN n4)
    have HS4:=Hd (show GSt Aj 34 w g gr s left b2 e2 l u9 w4 from hw4▸HS3.out.drewN n4)
    have HX4:=Hd (show Aj.holds (Am wr.heap.size) w4 x (Value.slice ra x.n rc)from hw4▸(show Aj.holds (Am wr.heap.size) (w3.drewN n4) x (Value.slice ra x.n rc)from Co HX3.out (AD (Below.refl _ _) n4)))
    have z0:w4.cell? ⟨b,0,none⟩=some (.int .u8 x.kind):=HB4.out.cell 0
    have z1:w4.cell? ⟨b,1,none⟩=some (.string x.dep.name):=HB4.out.cell 1
    have z2:w4.cell? ⟨b,2,none⟩=some (.int .u8 x.dep.op):=HB4.out.cell 2
    have z3:w4.cell? ⟨b,3,none⟩=some (.int .i64 x.dep.ep):=HB4.out.cell 3
    have z4:w4.cell? ⟨b,4,none⟩=some (.string x.dep.ver):=HB4.out.cell 4
    have z5:w4.cell? ⟨b,5,none⟩=some (.string x.dep.rel):=HB4.out.cell 5
    have z6:w4.cell? ⟨b,6,none⟩=some (.slice ra x.n rc):=HB4.out.cell 6
    have bl:b<w4.heap.size:=HB4.out.lt
    obtain⟨xs,hown,hone⟩:=HS4.out.ac.own
    obtain⟨ao,cp,hve⟩:=Cl hown
    have hll:=HL.out
    subst hve
    rw[hll]at hown
    have HO4:=Hd hown
    have HN4:=Hd hone
    clear hw4 HB3 HS3 HX3 HF1 HB4 hown hone
    go_wp2_with (first
     |(at_builtin;(refine AC _ rfl (.tmp 25) (.tmp 27) _ _ rfl 34 iD _ 7 96 Tryz.underlying26 hiD hz0 hz1 hz2 rfl (by omega) (.slice ao l.length cp) l.length xs rfl (hll▸HO4.out.alloc _) HN4.out (.slice (some ⟨w4.heap.size,0,none⟩) 1 1) 1 (Aj.cells x (Value.slice ra x.n rc)) rfl (C4 w4 x (.slice ra x.n rc) rfl) (by simp only[maxLen];omega) (by omega) ?_);rintro ao' cap' w7 hn1 hn2 hO7 hg7 hat7 hlt7;have hS5:=HS4.out.below (Ag w4 (.cells #[.int .u8 x.kind,.string x.dep.name,.int .u8 x.dep.op,.int .i64 x.dep.ep,.string x.dep.ver,.string x.dep.rel,.slice ra x.n rc] 34));have HS7:=Hd (hS5.push (x:=x) (r:=(Value.slice ra x.n rc)) (hll▸HO4.out.alloc _) HSz.out HOw.out (Co HX4.out (Ag _ _)) hO7 hg7 hat7);clear hn1 hn2 hO7 hg7 hat7 hlt7 hS5)
     |fail)
    go_roundw
    case rel=>exact⟨k+1,b2,e2,l++ [x],by omega,by go_num,⟨by rw[List.length_append,hll];rfl,by(have h7:=HS7.out;rw[hll]at h7;exact h7),HG3.out.step HR2.out⟩⟩
    case measure=>simp[intOf];omega
   ·have HF1:=Hd (show Calls Tryz.prog 84 #[.pointer (some ⟨g,0,none⟩)] w3 (fun r w'=>r= .returned (.bool false)∧∃n,w'=w3.drewN n)from HF.out.mono fun r w' ⟨h1,h2⟩=>⟨by rw[h1,decide_eq_false he2],h2⟩)
    clear HF
    go_wp2_with (first
     |(go_at_call 84;(with_reducible refine HF1.out.mono ?_);rintro rr w4 ⟨rfl,n4,rfl⟩)
     |fail)
    go_ret
    exact⟨[],_,b2,e2,rfl,LIn.nil _ _ _,HS3.out.rs.drewN n4,HG3.out.bad HR2.out he2,HS3.out.tt.drewN n4⟩
  ·obtain rfl:k=n:=by omega
   go_wp2_with fail
   go_ret
   have hG:=HQ.out.2.2
   rw[Nat.sub_self]at hG
   exact⟨l,u9,a,e1,rfl,HQ.out.2.1.ac.done (by have:=HQ.out.1;omega) (by decide),HQ.out.2.1.rs,hG.done,HQ.out.2.1.tt⟩
theorem MI {b1 g gr:Nat} {s:ByteArray} {left:Int} {at_:Nat} {e:Int} {w:World} (lo hi:Int) (hh:0≤hi) (hhi:hi≤1024) (p:Rdr Ac)
 (one:∀(a:Nat) (e:Int) (W:World),RSt g gr s left a e W→Ae (RF g gr) w W→Calls Tryz.prog 169 #[.pointer (some ⟨b1,0,none⟩)] W (Cg g gr s left a e p (fun x v w'=>∃r,v=x.val r∧Aj.holds (Am W.heap.size) w' x r) W))
 (h:RSt g gr s left at_ e w):Calls Tryz.prog 168 #[.pointer (some ⟨g,0,none⟩),.int .i64 lo,.int .i64 hi,.func (.func 169) #[] #[.pointer (some ⟨b1,0,none⟩)]] w (Cg g gr s left at_ e (Cd lo hi p) (fun l v w'=>LIn Aj (Am w.heap.size) w' l v) w):=by
 have HO:=Hd one
 have HN:=Hd (Bv lo hi hh h)
 have HH:=Hd h
 have c0:w.cell? ⟨g,0,none⟩=some (.pointer (some ⟨gr,0,none⟩)):=h.rb.cell 0
 obtain⟨iD,hiD,hz0,hz1,hz2⟩:=Gt
 clear one h
 go_enter Tryz.func168,Tryz.ntmps168
 go_wp2_with (first
  |(go_at_call 83;(with_reducible refine HN.out.mono ?_);rintro r w1 ⟨n,a1,e1,rfl,hn,hs1,hr1,ht1,hl1,hz1'⟩;have hnb:n≤1024:=(by omega);have HS1:=Hd (show GSt Aj 34 w g gr s left a1 e1 [] nV w1 from⟨hs1,Acc.nil _ _ _ _,ht1,HH.out.rb.lt,HH.out.wr.lt⟩);have HG1:=Hd (GGo.start (p:=p) hr1);clear hs1 hr1 ht1 hl1 hz1' hn)
  |fail)
 go_loopw [9,18] (fun v i wr=>∃(k a:Nat) (e1:Int) (l:List Ac),k≤n∧i= .int .i64 k∧Hid (l.length=k∧GSt Aj 34 w g gr s left a e1 l v wr∧GGo p lo hi s at_ e (n-k) l a e1)) (fun _ i _=>n-(intOf i).toNat)
 case atStart=>exact⟨0,a1,e1,[],by omega,rfl,⟨rfl,HS1.out,HG1.out⟩⟩
 case round=>
  obtain⟨k,a,e1,l,hk,rfl,HQ⟩:=hrel
  by_cases hlt:k<n
  ·have hki:(k:Int)<(n:Int):=by omega
   have HM:=Hd (HO.out a e1 wr HQ.out.2.1.rs HQ.out.2.1.tt)
   go_upto_region 5 with (first
    |(go_at_call 169;(with_reducible refine HM.out.mono ?_);rintro rr w2 ⟨x,vx,b2,e2,rfl,⟨r,rfl,hx2⟩,hs2,hr2,ht2⟩;obtain⟨ra,rc,rfl⟩:=(AZ.is hx2).form;have HS2:=Hd (HQ.out.2.1.call hs2 ht2);have HX2:=Hd hx2;have HR2:=Hd hr2;have HT2:=Hd ht2.size;clear hs2 hr2 ht2 hx2)
    |fail)
   obtain⟨b,hbe⟩:∃b,b=w2.heap.size:=⟨_,rfl⟩
   obtain⟨w3,hw3⟩:∃w3,w3=w2.alloc (.cells #[.int .u8 x.kind,.string x.dep.name,.int .u8 x.dep.op,.int .i64 x.dep.ep,.string x.dep.ver,.string x.dep.rel,.slice ra x.n rc] 34):=⟨_,rfl⟩
   have hb3:Below w2.heap.size w2 w3:=by rw[hw3];exact Ag _ _
   have HB3:=Hd (show Blk w3 b 34 #[.int .u8 x.kind,.string x.dep.name,.int .u8 x.dep.op,.int .i64 x.dep.ep,.string x.dep.ver,.string x.dep.rel,.slice ra x.n rc]from by rw[hw3,hbe];exact Blk.new _ _ _)
   have HS3:=Hd (HS2.out.below hb3)
   have HX3:=Hd (Co HX2.out hb3)
   have HG3:=Hd (show GGo p lo hi s at_ e (n-(k+1)+1) l a e1 from by rw[show n-(k+1)+1=n-k from by omega];exact HQ.out.2.2)
   have HL:=Hd HQ.out.1
   have HF:=Hd (BW HS3.out.rs)
   have HOw:=Hd (fun q hq=>(HQ.out.2.1.ownB q hq).2)
   have HSz:=Hd HQ.out.2.1.tt.size
   rw[←hw3,←hbe]
   clear hw3 hbe hb3 HM HS2 HQ
   by_cases he2:e2=0
   ·have HF1:=Hd (show Calls Tryz.prog 84 #[.pointer (some ⟨g,0,none⟩)] w3 (fun r w'=>r= .returned (.bool true)∧∃n,w'=w3.drewN n)from HF.out.mono fun r w' ⟨h1,h2⟩=>⟨by rw[h1,he2];rfl,h2⟩)
    clear HF
    go_upto_region 7 with (first
     |(go_at_call 84;(with_reducible refine HF1.out.mono ?_);rintro rr w4 ⟨rfl,n4,rfl⟩)
     |fail)
    obtain⟨w4,hw4⟩:∃w4,w4=w3.drewN n4:=⟨_,rfl⟩
    rw[←hw4]
    have HB4:=Hd (show Blk w4 b 34 #[.int .u8 x.kind,.string x.dep.name,.int .u8 x.dep.op,.int .i64 x.dep.ep,.string x.dep.ver,.string x.dep.rel,.slice ra x.n rc]from hw4▸HB3.out.drewN n4)
    have HS4:=Hd (show GSt Aj 34 w g gr s left b2 e2 l u9 w4 from hw4▸HS3.out.drewN n4)
    have HX4:=Hd (show Aj.holds (Am wr.heap.size) w4 x (Value.slice ra x.n rc)from hw4▸(show Aj.holds (Am wr.heap.size) (w3.drewN n4) x (Value.slice ra x.n rc)from Co HX3.out (AD (Below.refl _ _) n4)))
    have z0:w4.cell? ⟨b,0,none⟩=some (.int .u8 x.kind):=HB4.out.cell 0
    have z1:w4.cell? ⟨b,1,none⟩=some (.string x.dep.name):=HB4.out.cell 1
    have z2:w4.cell? ⟨b,2,none⟩=some (.int .u8 x.dep.op):=HB4.out.cell 2
    have z3:w4.cell? ⟨b,3,none⟩=some (.int .i64 x.dep.ep):=HB4.out.cell 3
    have z4:w4.cell? ⟨b,4,none⟩=some (.string x.dep.ver):=HB4.out.cell 4
    have z5:w4.cell? ⟨b,5,none⟩=some (.string x.dep.rel):=HB4.out.cell 5
    have z6:w4.cell? ⟨b,6,none⟩=some (.slice ra x.n rc):=HB4.out.cell 6
    have bl:b<w4.heap.size:=HB4.out.lt
    obtain⟨xs,hown,hone⟩:=HS4.out.ac.own
    obtain⟨ao,cp,hve⟩:=Cl hown
    have hll:=HL.out
    subst hve
    rw[hll]at hown
    have HO4:=Hd hown
    have HN4:=Hd hone
    clear hw4 HB3 HS3 HX3 HF1 HB4 hown hone
    go_wp2_with (first
     |(at_builtin;(refine AC _ rfl (.tmp 25) (.tmp 27) _ _ rfl 34 iD _ 7 96 Tryz.underlying26 hiD hz0 hz1 hz2 rfl (by omega) (.slice ao l.length cp) l.length xs rfl (hll▸HO4.out.alloc _) HN4.out (.slice (some ⟨w4.heap.size,0,none⟩) 1 1) 1 (Aj.cells x (Value.slice ra x.n rc)) rfl (C4 w4 x (.slice ra x.n rc) rfl) (by simp only[maxLen];omega) (by omega) ?_);rintro ao' cap' w7 hn1 hn2 hO7 hg7 hat7 hlt7;have hS5:=HS4.out.below (Ag w4 (.cells #[.int .u8 x.kind,.string x.dep.name,.int .u8 x.dep.op,.int .i64 x.dep.ep,.string x.dep.ver,.string x.dep.rel,.slice ra x.n rc] 34));have HS7:=Hd (hS5.push (x:=x) (r:=(Value.slice ra x.n rc)) (hll▸HO4.out.alloc _) HSz.out HOw.out (Co HX4.out (Ag _ _)) hO7 hg7 hat7);clear hn1 hn2 hO7 hg7 hat7 hlt7 hS5)
     |fail)
    go_roundw
    case rel=>exact⟨k+1,b2,e2,l++ [x],by omega,by go_num,⟨by rw[List.length_append,hll];rfl,by(have h7:=HS7.out;rw[hll]at h7;exact h7),HG3.out.step HR2.out⟩⟩
    case measure=>simp[intOf];omega
   ·have HF1:=Hd (show Calls Tryz.prog 84 #[.pointer (some ⟨g,0,none⟩)] w3 (fun r w'=>r= .returned (.bool false)∧∃n,w'=w3.drewN n)from HF.out.mono fun r w' ⟨h1,h2⟩=>⟨by rw[h1,decide_eq_false he2],h2⟩)
    clear HF
    go_wp2_with (first
     |(go_at_call 84;(with_reducible refine HF1.out.mono ?_);rintro rr w4 ⟨rfl,n4,rfl⟩)
     |fail)
    go_ret
    exact⟨[],_,b2,e2,rfl,LIn.nil _ _ _,HS3.out.rs.drewN n4,HG3.out.bad HR2.out he2,HS3.out.tt.drewN n4⟩
  ·obtain rfl:k=n:=by omega
   go_wp2_with fail
   go_ret
   have hG:=HQ.out.2.2
   rw[Nat.sub_self]at hG
   exact⟨l,u9,a,e1,rfl,HQ.out.2.1.ac.done (by have:=HQ.out.1;omega) (by decide),HQ.out.2.1.rs,hG.done,HQ.out.2.1.tt⟩
abbrev Bq:Array Value:= #[.string ⟨#[]⟩,.int .i64 0,.string ⟨#[]⟩,.string ⟨#[]⟩,.int .u8 0,.string ⟨#[]⟩,.slice none 0 0,.slice none 0 0,.slice none 0 0,.slice none 0 0,.slice none 0 0,.slice none 0 0,.slice none 0 0,.slice none 0 0,.slice none 0 0]
abbrev pkA (p:Aq) (r:AE):Array Value:= #[.string p.name,.int .i64 p.ep,.string p.ver,.string p.rel,.int .u8 p.arch,.string p.vendor,r.prov,r.req,r.con,r.obs,r.reco,r.sup,r.sug,r.enh,r.files]
theorem NO:∃i,Tryz.prog.info? 29=some i∧i.zero=some (.agg Bq)∧i.size=15∧i.bytes=296:=
 info_parts (P:=Tryz.prog) (e:=29) (z:= .agg Bq) (size:=15) (bytes:=296) (by kernel_rfl)
theorem FO (w:World) (p:Aq) (r:AE) (h:∀u∈CC p r,u.oneCell'=true):Src Tryz.prog 15 36 (.slice (some ⟨w.heap.size,0,none⟩) 1 1) 1 (CC p r) (w.alloc (.cells (pkA p r) 29)):=
 (Own.made w 29 15 (pkA p r) 1 rfl (by simp[maxLen])).src Tryz.underlying36 h
theorem NR {g gr:Nat} {s:ByteArray} {left:Int} {at_:Nat} {e:Int} {w:World} (lo hi:Int) (hh:0≤hi) (hhi:hi≤1024) (p:Rdr Aq)
 (one:∀(a:Nat) (e:Int) (W:World),RSt g gr s left a e W→Ae (RF g gr) w W→Calls Tryz.prog 86 #[.pointer (some ⟨g,0,none⟩)] W (Cg g gr s left a e p (fun x v w'=>∃r,v=x.val r∧AN.holds (Am W.heap.size) w' x r) W))
 (h:RSt g gr s left at_ e w):Calls Tryz.prog 85 #[.pointer (some ⟨g,0,none⟩),.int .i64 lo,.int .i64 hi,.func (.func 86) #[.pointer (some ⟨g,0,none⟩)] #[]] w (Cg g gr s left at_ e (Cd lo hi p) (fun l v w'=>LIn AN (Am w.heap.size) w' l v∧(l.length:Int)≤hi) w):=by
 have HO:=Hd one
 have HN:=Hd (Bv lo hi hh h)
 have HH:=Hd h
 have c0:w.cell? ⟨g,0,none⟩=some (.pointer (some ⟨gr,0,none⟩)):=h.rb.cell 0
 obtain⟨iD,hiD,hz0,hz1,hz2⟩:=NO
 clear one h
 go_enter Tryz.func85,Tryz.ntmps85
 go_wp2_with (first
  |(go_at_call 83;(with_reducible refine HN.out.mono ?_);rintro r w1 ⟨n,a1,e1,rfl,hn,hs1,hr1,ht1,hl1,hz1'⟩;have hnb:n≤1024:=(by omega);have HS1:=Hd (show GSt AN 29 w g gr s left a1 e1 [] nV w1 from⟨hs1,Acc.nil _ _ _ _,ht1,HH.out.rb.lt,HH.out.wr.lt⟩);have HG1:=Hd (GGo.start (p:=p) hr1);have HHi:=Hd hn;clear hs1 hr1 ht1 hl1 hz1' hn)
  |fail)
 go_loopw [9,18] (fun v i wr=>∃(k a:Nat) (e1:Int) (l:List Aq),k≤n∧i= .int .i64 k∧Hid (l.length=k∧GSt AN 29 w g gr s left a e1 l v wr∧GGo p lo hi s at_ e (n-k) l a e1)) (fun _ i _=>n-(intOf i).toNat)
 case atStart=>exact⟨0,a1,e1,[],by omega,rfl,⟨rfl,HS1.out,HG1.out⟩⟩
 case round=>
  obtain⟨k,a,e1,l,hk,rfl,HQ⟩:=hrel
  by_cases hlt:k<n
  ·have hki:(k:Int)<(n:Int):=by omega
   have HM:=Hd (HO.out a e1 wr HQ.out.2.1.rs HQ.out.2.1.tt)
   go_upto_region 5 with (first
    |(go_at_call 86;(with_reducible refine HM.out.mono ?_);rintro rr w2 ⟨x,vx,b2,e2,rfl,⟨r,rfl,hx2⟩,hs2,hr2,ht2⟩;rcases r with ⟨r1,r2,r3,r4,r5,r6,r7,r8,r9⟩;have hh2:Ah (Am wr.heap.size) w2 x ⟨r1,r2,r3,r4,r5,r6,r7,r8,r9⟩:=hx2;obtain⟨a1,q1,(rfl:r1=_)⟩:=hh2.prov.form;obtain⟨a2,q2,(rfl:r2=_)⟩:=hh2.req.form;obtain⟨a3,q3,(rfl:r3=_)⟩:=hh2.con.form;obtain⟨a4,q4,(rfl:r4=_)⟩:=hh2.obs.form;obtain⟨a5,q5,(rfl:r5=_)⟩:=hh2.reco.form;obtain⟨a6,q6,(rfl:r6=_)⟩:=hh2.sup.form;obtain⟨a7,q7,(rfl:r7=_)⟩:=hh2.sug.form;obtain⟨a8,q8,(rfl:r8=_)⟩:=hh2.enh.form;obtain⟨a9,q9,(rfl:r9=_)⟩:=hh2.files.form;clear hh2;have HS2:=Hd (HQ.out.2.1.call hs2 ht2);have HX2:=Hd hx2;have HR2:=Hd hr2;have HT2:=Hd ht2.size;clear hs2 hr2 ht2 hx2)
    |fail)
   obtain⟨b,hbe⟩:∃b,b=w2.heap.size:=⟨_,rfl⟩
   obtain⟨w3,hw3⟩:∃w3,w3=w2.alloc (.cells #[.string x.name,.int .i64 x.ep,.string x.ver,.string x.rel,.int .u8 x.arch,.string x.vendor,.slice a1 x.prov.length q1,.slice a2 (Ab x.req).length q2,.slice a3 (Ab x.con).length q3,.slice a4 x.obs.length q4,.slice a5 (Ab x.reco).length q5,.slice a6 (Ab x.sup).length q6,.slice a7 (Ab x.sug).length q7,.slice a8 (Ab x.enh).length q8,.slice a9 x.files.length q9] 29):=⟨_,rfl⟩
   have hb3:Below w2.heap.size w2 w3:=by rw[hw3];exact Ag _ _
   have HB3:=Hd (show Blk w3 b 29 #[.string x.name,.int .i64 x.ep,.string x.ver,.string x.rel,.int .u8 x.arch,.string x.vendor,.slice a1 x.prov.length q1,.slice a2 (Ab x.req).length q2,.slice a3 (Ab x.con).length q3,.slice a4 x.obs.length q4,.slice a5 (Ab x.reco).length q5,.slice a6 (Ab x.sup).length q6,.slice a7 (Ab x.sug).length q7,.slice a8 (Ab x.enh).length q8,.slice a9 x.files.length q9]from by rw[hw3,hbe];exact Blk.new _ _ _)
   have HS3:=Hd (HS2.out.below hb3)
   have HX3:=Hd (Co HX2.out hb3)
   have HG3:=Hd (show GGo p lo hi s at_ e (n-(k+1)+1) l a e1 from by rw[show n-(k+1)+1=n-k from by omega];exact HQ.out.2.2)
   have HL:=Hd HQ.out.1
   have HF:=Hd (BW HS3.out.rs)
   have HOw:=Hd (fun q hq=>(HQ.out.2.1.ownB q hq).2)
   have HSz:=Hd HQ.out.2.1.tt.size
   rw[←hw3,←hbe]
   clear hw3 hbe hb3 HM HS2 HQ
   by_cases he2:e2=0
   ·have HF1:=Hd (show Calls Tryz.prog 84 #[.pointer (some ⟨g,0,none⟩)] w3 (fun r w'=>r= .returned (.bool true)∧∃n,w'=w3.drewN n)from HF.out.mono fun r w' ⟨h1,h2⟩=>⟨by rw[h1,he2];rfl,h2⟩)
    clear HF
    go_upto_region 7 with (first
     |(go_at_call 84;(with_reducible refine HF1.out.mono ?_);rintro rr w4 ⟨rfl,n4,rfl⟩)
     |fail)
    obtain⟨w4,hw4⟩:∃w4,w4=w3.drewN n4:=⟨_,rfl⟩
    rw[←hw4]
    have HB4:=Hd (show Blk w4 b 29 #[.string x.name,.int .i64 x.ep,.string x.ver,.string x.rel,.int .u8 x.arch,.string x.vendor,.slice a1 x.prov.length q1,.slice a2 (Ab x.req).length q2,.slice a3 (Ab x.con).length q3,.slice a4 x.obs.length q4,.slice a5 (Ab x.reco).length q5,.slice a6 (Ab x.sup).length q6,.slice a7 (Ab x.sug).length q7,.slice a8 (Ab x.enh).length q8,.slice a9 x.files.length q9]from hw4▸HB3.out.drewN n4)
    have HS4:=Hd (show GSt AN 29 w g gr s left b2 e2 l u9 w4 from hw4▸HS3.out.drewN n4)
    have HX4:=Hd (show AN.holds (Am wr.heap.size) w4 x (AE.mk (.slice a1 x.prov.length q1) (.slice a2 (Ab x.req).length q2) (.slice a3 (Ab x.con).length q3) (.slice a4 x.obs.length q4) (.slice a5 (Ab x.reco).length q5) (.slice a6 (Ab x.sup).length q6) (.slice a7 (Ab x.sug).length q7) (.slice a8 (Ab x.enh).length q8) (.slice a9 x.files.length q9))from hw4▸(show AN.holds (Am wr.heap.size) (w3.drewN n4) x (AE.mk (.slice a1 x.prov.length q1) (.slice a2 (Ab x.req).length q2) (.slice a3 (Ab x.con).length q3) (.slice a4 x.obs.length q4) (.slice a5 (Ab x.reco).length q5) (.slice a6 (Ab x.sup).length q6) (.slice a7 (Ab x.sug).length q7) (.slice a8 (Ab x.enh).length q8) (.slice a9 x.files.length q9))from Co HX3.out (AD (Below.refl _ _) n4)))
    have z0:w4.cell? ⟨b,0,none⟩=some (.string x.name):=HB4.out.cell 0
    have z1:w4.cell? ⟨b,1,none⟩=some (.int .i64 x.ep):=HB4.out.cell 1
    have z2:w4.cell? ⟨b,2,none⟩=some (.string x.ver):=HB4.out.cell 2
    have z3:w4.cell? ⟨b,3,none⟩=some (.string x.rel):=HB4.out.cell 3
    have z4:w4.cell? ⟨b,4,none⟩=some (.int .u8 x.arch):=HB4.out.cell 4
    have z5:w4.cell? ⟨b,5,none⟩=some (.string x.vendor):=HB4.out.cell 5
    have z6:w4.cell? ⟨b,6,none⟩=some (.slice a1 x.prov.length q1):=HB4.out.cell 6
    have z7:w4.cell? ⟨b,7,none⟩=some (.slice a2 (Ab x.req).length q2):=HB4.out.cell 7
    have z8:w4.cell? ⟨b,8,none⟩=some (.slice a3 (Ab x.con).length q3):=HB4.out.cell 8
    have z9:w4.cell? ⟨b,9,none⟩=some (.slice a4 x.obs.length q4):=HB4.out.cell 9
    have z10:w4.cell? ⟨b,10,none⟩=some (.slice a5 (Ab x.reco).length q5):=HB4.out.cell 10
    have z11:w4.cell? ⟨b,11,none⟩=some (.slice a6 (Ab x.sup).length q6):=HB4.out.cell 11
    have z12:w4.cell? ⟨b,12,none⟩=some (.slice a7 (Ab x.sug).length q7):=HB4.out.cell 12
    have z13:w4.cell? ⟨b,13,none⟩=some (.slice a8 (Ab x.enh).length q8):=HB4.out.cell 13
    have z14:w4.cell? ⟨b,14,none⟩=some (.slice a9 x.files.length q9):=HB4.out.cell 14
    have bl:b<w4.heap.size:=HB4.out.lt
    obtain⟨xs,hown,hone⟩:=HS4.out.ac.own
    obtain⟨ao,cp,hve⟩:=Cl hown
    have hll:=HL.out
    subst hve
    rw[hll]at hown
    have HO4:=Hd hown
    have HN4:=Hd hone
    clear hw4 HB3 HS3 HX3 HF1 HB4 hown hone
    go_wp2_with (first
     |(at_builtin;(refine AC _ rfl (.tmp 25) (.tmp 27) _ _ rfl 29 iD _ 15 296 Tryz.underlying36 hiD hz0 hz1 hz2 rfl (by omega) (.slice ao l.length cp) l.length xs rfl (hll▸HO4.out.alloc _) HN4.out (.slice (some ⟨w4.heap.size,0,none⟩) 1 1) 1 (AN.cells x (AE.mk (.slice a1 x.prov.length q1) (.slice a2 (Ab x.req).length q2) (.slice a3 (Ab x.con).length q3) (.slice a4 x.obs.length q4) (.slice a5 (Ab x.reco).length q5) (.slice a6 (Ab x.sup).length q6) (.slice a7 (Ab x.sug).length q7) (.slice a8 (Ab x.enh).length q8) (.slice a9 x.files.length q9))) rfl (FO w4 x ⟨.slice a1 x.prov.length q1,.slice a2 (Ab x.req).length q2,.slice a3 (Ab x.con).length q3,.slice a4 x.obs.length q4,.slice a5 (Ab x.reco).length q5,.slice a6 (Ab x.sup).length q6,.slice a7 (Ab x.sug).length q7,.slice a8 (Ab x.enh).length q8,.slice a9 x.files.length q9⟩ (fun u hu=>AN.one HX4.out u hu)) (by simp only[maxLen];omega) (by omega) ?_);rintro ao' cap' w7 hn1 hn2 hO7 hg7 hat7 hlt7;have hS5:=HS4.out.below (Ag w4 (.cells #[.string x.name,.int .i64 x.ep,.string x.ver,.string x.rel,.int .u8 x.arch,.string x.vendor,.slice a1 x.prov.length q1,.slice a2 (Ab x.req).length q2,.slice a3 (Ab x.con).length q3,.slice a4 x.obs.length q4,.slice a5 (Ab x.reco).length q5,.slice a6 (Ab x.sup).length q6,.slice a7 (Ab x.sug).length q7,.slice a8 (Ab x.enh).length q8,.slice a9 x.files.length q9] 29));have HS7:=Hd (hS5.push (x:=x) (r:=(AE.mk (.slice a1 x.prov.length q1) (.slice a2 (Ab x.req).length q2) (.slice a3 (Ab x.con).length q3) (.slice a4 x.obs.length q4) (.slice a5 (Ab x.reco).length q5) (.slice a6 (Ab x.sup).length q6) (.slice a7 (Ab x.sug).length q7) (.slice a8 (Ab x.enh).length q8) (.slice a9 x.files.length q9))) (hll▸HO4.out.alloc _) HSz.out HOw.out (Co HX4.out (Ag _ _)) hO7 hg7 hat7);clear hn1 hn2 hO7 hg7 hat7 hlt7 hS5)
     |fail)
    go_roundw
    case rel=>exact⟨k+1,b2,e2,l++ [x],by omega,by go_num,⟨by rw[List.length_append,hll];rfl,by(have h7:=HS7.out;rw[hll]at h7;exact h7),HG3.out.step HR2.out⟩⟩
    case measure=>simp[intOf];omega
   ·have HF1:=Hd (show Calls Tryz.prog 84 #[.pointer (some ⟨g,0,none⟩)] w3 (fun r w'=>r= .returned (.bool false)∧∃n,w'=w3.drewN n)from HF.out.mono fun r w' ⟨h1,h2⟩=>⟨by rw[h1,decide_eq_false he2],h2⟩)
    clear HF
    go_wp2_with (first
     |(go_at_call 84;(with_reducible refine HF1.out.mono ?_);rintro rr w4 ⟨rfl,n4,rfl⟩)
     |fail)
    go_ret
    exact⟨[],_,b2,e2,rfl,⟨LIn.nil _ _ _,hh⟩,HS3.out.rs.drewN n4,HG3.out.bad HR2.out he2,HS3.out.tt.drewN n4⟩
  ·obtain rfl:k=n:=by omega
   go_wp2_with fail
   go_ret
   have hG:=HQ.out.2.2
   rw[Nat.sub_self]at hG
   exact⟨l,u9,a,e1,rfl,⟨HQ.out.2.1.ac.done (by have:=HQ.out.1;omega) (by decide),by have:=HHi.out;have:=HQ.out.1;omega⟩,HQ.out.2.1.rs,hG.done,HQ.out.2.1.tt⟩
theorem Bw (k:Int) (l:List Ac):Ab (ofL k l)=l:=by
 unfold Ab
 apply List.ext_getElem
 ·simp[ofL,Ac.n]
 ·intro i h1 h2
  simp[ofL,Ac.args,h2]
theorem Ax.small.fit {d:Ax} (h:d.small):d.fit∧0≤d.op∧d.op<256:=⟨⟨by have:=h.1;omega,by have:=h.2.2.2.1;omega,by have:=h.2.2.2.2;omega⟩,h.2.1⟩
abbrev VR (n0:Nat):Ac→Value→World→Prop:=fun x v w'=>∃r,v=x.val r∧Aj.holds (Am n0) w' x r
theorem D4 {α:Type} {K:Kd α} {n m:Nat} (hm:n≤m) {w:World} {x:α} {r:K.R} (h:K.holds (Am m) w x r):K.holds (Am n) w x r:=K.keep h (Nat.le_refl _) fun _ ⟨k1,k2⟩ _=>⟨rfl,by omega,k2⟩
theorem GM {g gr:Nat} {s:ByteArray} {left:Int} {at_:Nat} {e:Int} {w:World} (h:RSt g gr s left at_ e w):Calls Tryz.prog 135 #[.pointer (some ⟨g,0,none⟩)] w (Cg g gr s left at_ e Jn (fun l v w'=>LIn AW (Am w.heap.size) w' l v) w):=by
 have HG:=Hd (NT 0 32 (by decide) (by decide) GZ (fun a e W hW _=>(Ic hW).mono fun r w' ⟨x,v,a2,e2,h1,⟨h2,h2'⟩,h3,h4,h5⟩=>⟨x,v,a2,e2,h1,⟨(),h2,h2'.fit⟩,h3,h4,h5⟩) h)
 clear h
 go_enter Tryz.func135,Tryz.ntmps135
 go_wp2_with (first
  |(go_at_call 166;(with_reducible refine HG.out.mono ?_);rintro r w1 ⟨x,v,a2,e2,rfl,hx,h3,h4,h5⟩)
  |fail)
 go_ret
 exact⟨x,v,a2,e2,rfl,hx,h3,h4,h5⟩
structure BSt (w:World) (b1 b2 b3:Nat) (deep:Int) (g gr:Nat) (s:ByteArray) (left:Int) (a:Nat) (e:Int) (W:World):Prop where
 rs:RSt g gr s left a e W
 x1:Blk W b1 83 #[.pointer (some ⟨g,0,none⟩)]
 x2:Blk W b2 3 #[.int .i64 deep]
 rz:Blk W b3 34 BQ
 tt:Ae (RF g gr) w W
 lo:w.heap.size≤b1∧w.heap.size≤b2∧w.heap.size≤b3
section
variable {w:World} {b1 b2 b3 bx:Nat} {deep:Int} {g gr:Nat} {s:ByteArray} {left:Int} {a a':Nat} {e e':Int} {W W':World} {c:Array Value}
theorem BSt.call (h:BSt w b1 b2 b3 deep g gr s left a e W) (hr:RSt g gr s left a' e' W') (ht:Ae (RF g gr) W W'):BSt w b1 b2 b3 deep g gr s left a' e' W':=
 ⟨hr,h.rs.far ht h.x1 (by decide) (by decide),h.rs.far ht h.x2 (by decide) (by decide),h.rs.far ht h.rz (by decide) (by decide),h.tt.trans ht fun _ _ h=>h,h.lo⟩
theorem BSt.below (h:BSt w b1 b2 b3 deep g gr s left a e W) (hb:Below W.heap.size W W'):BSt w b1 b2 b3 deep g gr s left a e W':=h.call (h.rs.below hb) (Ae.of_below hb _)
theorem BSt.start (h:RSt g gr s left a e w) (deep:Int):BSt w w.heap.size (w.heap.size+1) (w.heap.size+2) deep g gr s left a e (((w.alloc (.cells #[.pointer (some ⟨g,0,none⟩)] 83)).alloc (.cells #[.int .i64 deep] 3)).alloc (.cells BQ 34)):=by
 have h1:=Ag w (.cells #[.pointer (some ⟨g,0,none⟩)] 83)
 have h2:=Ag (w.alloc (.cells #[.pointer (some ⟨g,0,none⟩)] 83)) (.cells #[.int .i64 deep] 3)
 have h3:=Ag ((w.alloc (.cells #[.pointer (some ⟨g,0,none⟩)] 83)).alloc (.cells #[.int .i64 deep] 3)) (.cells BQ 34)
 have k1:=Blk.new w 83 #[.pointer (some ⟨g,0,none⟩)]
 have k2:=Blk.new (w.alloc (.cells #[.pointer (some ⟨g,0,none⟩)] 83)) 3 #[.int .i64 deep]
 have k3:=Blk.new ((w.alloc (.cells #[.pointer (some ⟨g,0,none⟩)] 83)).alloc (.cells #[.int .i64 deep] 3)) 34 BQ
 have hB:=Aa h1 (Aa h2 h3)
 have l1:=k1.lt
 have l2:=k2.lt
 rw[World.size_alloc]at k2 l2
 rw[World.size_alloc,World.size_alloc]at k3
 refine⟨h.below hB,(k1.below h2 l1).below h3 (by have:=h2.size;omega),k2.below h3 l2,k3,Ae.of_below hB _,by omega,by omega,by omega⟩
structure XSt (w:World) (b1 b2 b3 bx:Nat) (c:Array Value) (deep:Int) (g gr:Nat) (s:ByteArray) (left:Int) (a:Nat) (e:Int) (W:World):Prop where
 bs:BSt w b1 b2 b3 deep g gr s left a e W
 rx:Blk W bx 34 c
 lx:w.heap.size≤bx
 nx:b3≠bx
theorem XSt.call (h:XSt w b1 b2 b3 bx c deep g gr s left a e W) (hr:RSt g gr s left a' e' W') (ht:Ae (RF g gr) W W'):XSt w b1 b2 b3 bx c deep g gr s left a' e' W':=
 ⟨h.bs.call hr ht,h.bs.rs.far ht h.rx (by decide) (by decide),h.lx,h.nx⟩
theorem XSt.drewN (h:XSt w b1 b2 b3 bx c deep g gr s left a e W) (n:Nat):XSt w b1 b2 b3 bx c deep g gr s left a e (W.drewN n):=h.call (h.bs.rs.drewN n) ((Ae.refl _ _).drewN n)
theorem XSt.set (h:XSt w b1 b2 b3 bx c deep g gr s left a e W) (i:Nat) (v:Value):XSt w b1 b2 b3 bx (c.setIfInBounds i v) deep g gr s left a e (W.setCell ⟨bx,i,none⟩ v):=
 ⟨⟨h.bs.rs.set (h.rx.ne_ h.bs.rs.rb (by decide)) (h.rx.ne_ h.bs.rs.wr (by decide)) v,h.bs.x1.far (h.bs.x1.ne_ h.rx (by decide)) v,h.bs.x2.far (h.bs.x2.ne_ h.rx (by decide)) v,h.bs.rz.far h.nx v,Bh h.bs.tt h.lx v,h.bs.lo⟩,h.rx.set_ i v,h.lx,h.nx⟩
theorem RSt.fin {r:Ac} {v:Value} {b:Nat} (h:RSt g gr s left a e W) (h1:b≠g) (h2:b≠gr):RSt g gr s left a e (Di W b r v):=by
 unfold Di
 have k:∀(i:Nat) (u:Value) (W:World),RSt g gr s left a e W→RSt g gr s left a e (W.setCell ⟨b,i,none⟩ u):=fun i u W h=>h.set (p:=⟨b,i,none⟩) h1 h2 u
 exact k _ _ _ (k _ _ _ (k _ _ _ (k _ _ _ (k _ _ _ (k _ _ _ (k _ _ _ h))))))
theorem EY {F:Nat→Prop} {r:Ac} {v:Value} {b:Nat} (h:Ae F w W) (hb:w.heap.size≤b):Ae F w (Di W b r v):=
 by
 unfold Di
 have k:∀(i:Nat) (u:Value) (W:World),Ae F w W→Ae F w (W.setCell ⟨b,i,none⟩ u):=fun i u W h=>Bh (p:=⟨b,i,none⟩) h hb u
 exact k _ _ _ (k _ _ _ (k _ _ _ (k _ _ _ (k _ _ _ (k _ _ _ (k _ _ _ h))))))
theorem OG {n0 b:Nat} {x y:Ac} {r v:Value} (h:AZ (Am n0) W x r) (hb:b<n0):AZ (Am n0) (Di W b y v) x r:=by
 obtain⟨U,hU⟩:∃U,U=Di W b y v:=⟨_,rfl⟩
 have hs:U.heap.size=W.heap.size:=by rw[hU];exact H3 _ _ _ _
 have hf:∀k,k≠b→U.heap[k]?=W.heap[k]?:=by rw[hU];exact Gy _ _ _ _
 rw[←hU]
 exact h.keep (by omega) fun k ⟨k1,k2⟩ _=>⟨hf k (by omega),k1,fun i=>(World.frozen?_of_block (w:=W) (hf k (by omega))).trans (k2 i)⟩
theorem Fc {n0 b:Nat} {x y:Ac} {r v:Value} (h:Aj.holds (Am n0) W x r) (hb:b<n0):Aj.holds (Am n0) (Di W b y v) x r:=OG h hb
theorem XSt.done {x:Ac} {r:Value} {n0:Nat} (h:XSt w b1 b2 b3 bx (AV x r) deep g gr s left a e W) (hn:w.heap.size≤n0) (hb:b3<n0) (hx:Aj.holds (Am n0) W x r):
 Blk (Di W b3 x r) b3 34 (AV x r)∧Aj.holds (Am w.heap.size) (Di W b3 x r) x r∧RSt g gr s left a e (Di W b3 x r)∧Ae (RF g gr) w (Di W b3 x r):=
 ⟨EM h.bs.rz x r,D4 hn (Fc hx hb),h.bs.rs.fin (h.bs.rz.ne_ h.bs.rs.rb (by decide)) (h.bs.rz.ne_ h.bs.rs.wr (by decide)),EY h.bs.tt h.bs.lo.2.2⟩
end
def LX (m:Nat):Prop:=∀(g gr:Nat) (s:ByteArray) (left:Int) (at_:Nat) (e:Int) (w:World),RSt g gr s left at_ e w→Calls Tryz.prog 170 #[.pointer (some ⟨g,0,none⟩),.int .i64 (8-m:Int)] w (Cg g gr s left at_ e (B7 m) (VR w.heap.size) w)
theorem J1 {m:Nat} (hm:m<8) (ih:LX m) {g gr b1 b2:Nat} {s:ByteArray} {left:Int} {at_:Nat} {e:Int} {w:World} (h:RSt g gr s left at_ e w) (h1:Blk w b1 83 #[.pointer (some ⟨g,0,none⟩)]) (h2:Blk w b2 3 #[.int .i64 (8-(m+1:Nat):Int)]):
 Calls Tryz.prog 179 #[.pointer (some ⟨b1,0,none⟩),.pointer (some ⟨b2,0,none⟩)] w (Cg g gr s left at_ e (B7 m) (VR w.heap.size) w):=by
 obtain⟨b,hbe⟩:∃b,b=w.heap.size:=⟨_,rfl⟩
 obtain⟨w1,hw1⟩:∃w1,w1=w.alloc (.cells BQ 34):=⟨_,rfl⟩
 have hb1:Below w.heap.size w w1:=by rw[hw1];exact Ag _ _
 have hx1:Blk w1 b 34 BQ:=by rw[hw1,hbe];exact Blk.new _ _ _
 have hsz:w1.heap.size=b+1:=by rw[hw1,hbe];simp
 have c1:w1.cell? ⟨b1,0,none⟩=some (.pointer (some ⟨g,0,none⟩)):=(h1.below hb1 h1.lt).cell 0
 have c2:w1.cell? ⟨b2,0,none⟩=some (.int .i64 (8-(m+1:Nat):Int)):=(h2.below hb1 h2.lt).cell 0
 obtain⟨d,hd⟩:∃d:Int,d=8-(m+1:Nat):=⟨_,rfl⟩
 rw[←hd]at c2
 have hd1:0≤d∧d<8:=by omega
 have HN:=Hd (show Calls Tryz.prog 170 #[.pointer (some ⟨g,0,none⟩),.int .i64 (d+1)] w1 (Cg g gr s left at_ e (B7 m) (VR w1.heap.size) w1)from by
  have:=ih g gr s left at_ e w1 (h.below hb1)
  rw[show(8-m:Int)=d+1 from by omega]at this
  exact this)
 have HS:=Hd (show RSt g gr s left at_ e w1∧Blk w1 b 34 BQ∧Ae (RF g gr) w w1∧w1.heap.size=b+1∧w.heap.size=b from⟨h.below hb1,hx1,Ae.of_below hb1 _,hsz,hbe.symm⟩)
 clear h h1 h2 hb1 hx1 hsz hd
 go_enter Tryz.func179,Tryz.ntmps179
 go_upto_region 1 with fail
 rw[←hw1,←hbe]
 have HG:=Hd hbe
 clear hw1 hbe
 go_wp2_with (first
  |(go_at_call 170;(with_reducible refine HN.out.mono ?_);rintro rr w2 ⟨x,vx,a2,e2,rfl,⟨r,rfl,hx2⟩,hs2,hr2,ht2⟩;obtain⟨ra,rc,rfl⟩:=(AZ.is hx2).form;have HX2:=Hd hx2;have HS2:=Hd (show RSt g gr s left a2 e2 w2∧Blk w2 b 34 BQ∧Ae (RF g gr) w w2 from⟨hs2,HS.out.1.far ht2 HS.out.2.1 (by decide) (by decide),HS.out.2.2.1.trans ht2 fun _ _ h=>h⟩);have HR2:=Hd hr2;have z0:=HS2.out.2.1.cell 0;have z1:=HS2.out.2.1.cell 1;have z2:=HS2.out.2.1.cell 2;have z3:=HS2.out.2.1.cell 3;have z4:=HS2.out.2.1.cell 4;have z5:=HS2.out.2.1.cell 5;have z6:=HS2.out.2.1.cell 6;have f0:=HS2.out.2.1.frozen 0;have f1:=HS2.out.2.1.frozen 1;have f2:=HS2.out.2.1.frozen 2;have f3:=HS2.out.2.1.frozen 3;have f4:=HS2.out.2.1.frozen 4;have f5:=HS2.out.2.1.frozen 5;have f6:=HS2.out.2.1.frozen 6;have zl:=HS2.out.2.1.lt;clear hx2 hs2 hr2 ht2)
  |fail)
 have hbg:b≠g∧b≠gr:=⟨HS2.out.2.1.ne_ HS2.out.1.rb (by decide),HS2.out.2.1.ne_ HS2.out.1.wr (by decide)⟩
 exact bodyPost_ret (results_cell_row rfl _ _ b 34 _ (0,0) _ rfl (EM HS2.out.2.1 x (.slice ra x.n rc)) Tryz.underlying34 rfl (by kernel_rfl)) rfl ⟨x,_,a2,e2,rfl,⟨_,rfl,by rw[HS.out.2.2.2.2];exact D4 (by rw[HS.out.2.2.2.1];omega) (Fc HX2.out (by rw[HS.out.2.2.2.1];omega))⟩,HS2.out.1.fin hbg.1 hbg.2,HR2.out,EY HS2.out.2.2 (by rw[HS.out.2.2.2.2];exact Nat.le_refl _)⟩
structure DLs {α:Type} (K:Kd α) (t:TypeId) (w:World) (g:Nat) (s:ByteArray) (a:Nat) (e:Int) (l:List α) (v:Value) (W:World):Prop where
 ds:DR g s a e W
 ac:Acc K t w.heap.size W l v
 tc:Ae (·=g) w W
 lt:g<w.heap.size
section
variable {α:Type} {K:Kd α} {t:TypeId} {w W W':World} {g:Nat} {s:ByteArray} {a a':Nat} {e e':Int} {l:List α} {v:Value}
theorem DLs.start (h:DR g s a e w) (K:Kd α) (t:TypeId):DLs K t w g s a e [] nV w:=⟨h,Acc.nil _ _ _ _,Ae.refl _ _,h.rb.lt⟩
theorem DLs.call (h:DLs K t w g s a e l v W) (hr:DR g s a' e' W') (ht:Ae (·=g) W W'):DLs K t w g s a' e' l v W':=
 ⟨hr,h.ac.keep ht.size fun b h1 h2=>ht.block b h2 (by have:=h.lt;omega),h.tc.trans ht fun _ _ h=>h,h.lt⟩
theorem DLs.below (h:DLs K t w g s a e l v W) (hb:Below W.heap.size W W'):DLs K t w g s a e l v W':=h.call (h.ds.below hb) (Ae.of_below hb _)
theorem DLs.ownB (h:DLs K t w g s a e l v W) (b:Nat) (hb:v.ownBlock=some b):w.heap.size≤b∧b<W.heap.size:=by
 obtain⟨ps,h1,h2,h3,h4⟩:=h.ac.ex
 exact⟨h3 b hb,h2.lt b hb⟩
theorem DLs.push {x:α} {r:K.R} {xs:List Value} {v':Value} {m0:Nat} (h:DLs K t w g s a e l v W) (hown:Own W t K.size v l.length xs) (hm:w.heap.size≤m0) (hv:∀b,v.ownBlock=some b→b<m0) (hx:K.holds (Am m0) W x r)
 (hO:Own W' t K.size v' (l.length+1) (xs++K.cells x r)) (hg:W.grownBy W' v.ownBlock) (hat:v'.ownBlock=v.ownBlock∨v'.ownBlock=some W.heap.size):DLs K t w g s a e (l++ [x]) v' W':=by
 have hne:∀b,b<w.heap.size→v.ownBlock≠some b:=fun b hb e=>by have:=(h.ownB b e).1;omega
 exact⟨⟨h.ds.rb.grown hg (fun e=>hne _ h.lt e.symm),h.ds.hat,h.ds.hs⟩,Acc.push hown h.ac hm hx hv h.tc.size hO hg hat,h.tc.trans (Ae.of_grown (F:=fun k=>v.ownBlock=some k) hg fun k e=>e) fun x hx e=>absurd e (hne x hx),h.lt⟩
end
def DGo {α:Type} (p:Rdr α) (lo hi:Int) (s:ByteArray) (at_:Nat) (e:Int) (n k:Nat) (l:List α) (a:Nat) (e1:Int):Prop:=(e1=0∧GGo p lo hi s at_ e (n-k) l a e1)∨(e1≠0∧Res (Cd lo hi p) s at_ e l a e1)
section
variable {α:Type} {p:Rdr α} {lo hi:Int} {s:ByteArray} {at_ n k a a2:Nat} {e e1 e2:Int} {l:List α} {x:α}
theorem DGo.start (h:Res (Cc lo hi) s at_ e n a e1):DGo p lo hi s at_ e n 0 [] a e1:=by
 by_cases he:e1=0
 ·exact .inl ⟨he,h2 h⟩
 ·exact .inr ⟨he,Al h (.inl ⟨he,rfl,rfl⟩)⟩
where h2 (h:Res (Cc lo hi) s at_ e n a e1):GGo p lo hi s at_ e (n-0) [] a e1:=GGo.start h
theorem DGo.step (h:DGo p lo hi s at_ e n k l a 0) (hk:k<n) (r:Res p s a 0 x a2 e2):DGo p lo hi s at_ e n (k+1) (l++ [x]) a2 e2:=by
 rcases h with ⟨_,h⟩|⟨h,_⟩
 ·rw[show n-k=(n-(k+1))+1 from by omega]at h
  by_cases he:e2=0
  ·exact .inl ⟨he,h.step r⟩
  ·exact .inr ⟨he,(h.bad r he).bad he⟩
 ·exact absurd rfl h
theorem DGo.done (h:DGo p lo hi s at_ e n n l a e1):Res (Cd lo hi p) s at_ e l a e1:=by
 rcases h with ⟨_,h⟩|⟨_,h⟩
 ·rw[Nat.sub_self]at h
  exact h.done
 ·exact h
theorem DGo.bad (h:DGo p lo hi s at_ e n k l a e1) (he:e1≠0):Res (Cd lo hi p) s at_ e l a e1:=by
 rcases h with ⟨h,_⟩|⟨_,h⟩
 ·exact absurd h he
 ·exact h
end
theorem Fr {g:Nat} {s:ByteArray} {at_:Nat} {e:Int} {w:World} (h:DR g s at_ e w):Calls Tryz.prog 153 #[.pointer (some ⟨g,0,none⟩)] w
 fun ret w'=>∃(d:Ax) (at2:Nat) (e2:Int),ret= .returned d.val∧d.small∧DR g s at2 e2 w'∧Res GZ s at_ e d at2 e2∧Ae (·=g) w w':=by
 have HQ:=Hd (QSt.start h 32 #[.string ⟨#[]⟩,.int .u8 0,.int .i64 0,.string ⟨#[]⟩,.string ⟨#[]⟩])
 obtain⟨b,hb⟩:∃b,b=w.heap.size:=⟨_,rfl⟩
 obtain⟨W,hW⟩:∃W,W=(w.alloc (.cells #[.string ⟨#[]⟩,.int .u8 0,.int .i64 0,.string ⟨#[]⟩,.string ⟨#[]⟩] 32)).alloc (.cells #[.string ⟨#[]⟩,.int .u8 0,.int .i64 0,.string ⟨#[]⟩,.string ⟨#[]⟩] 32):=⟨_,rfl⟩
 rw[←hW]at HQ
 have HN:=Hd (EZ HQ.out.ds 64 (by decide))
 have HBw:=Hd hb
 clear h
 go_enter Tryz.func153,Tryz.ntmps153
 go_upto_region 2 with fail
 rw[←hW,←hb]
 clear hW hb
 go_upto_region 3 with (first
  |(go_at_call 105;(with_reducible refine HN.out.mono ?_);rintro r w1 ⟨nm,at1,e1,rfl,hv,hs1,hr1,ht1⟩;have HQ1:=Hd (HQ.out.call hs1 ht1);have HR1:=Hd (And.intro hv hr1);have x0:w1.cell? ⟨b+1,0,none⟩=some (.string ⟨#[]⟩):=by rw[HBw.out];exact HQ1.out.bx.cell 0
    have xf0:w1.frozen? ⟨b+1,0,none⟩=false:=by rw[HBw.out];exact HQ1.out.bx.frozen 0
    have xl:b+1<w1.heap.size:=by rw[HBw.out];exact HQ1.out.bx.lt
    clear hv hs1 hr1 ht1)
  |fail)
 obtain⟨W1,hW1⟩:∃W1,W1=w1.setCell ⟨b+1,0,none⟩ (.string nm):=⟨_,rfl⟩
 have HQ1:=Hd (show QSt 32 _ w g s at1 e1 #[.string nm,.int .u8 0,.int .i64 0,.string ⟨#[]⟩,.string ⟨#[]⟩] W1 from by rw[hW1,HBw.out];exact HQ1.out.set 0 (.string nm))
 have HN2:=Hd (DE HQ1.out.ds 0 6 (by decide))
 rw[←hW1]
 clear hW1 x0 xf0 xl
 go_upto_region 4 with (first
  |(go_at_call 57;(with_reducible refine HN2.out.mono ?_);rintro r w2 ⟨op,at2,e2,rfl,hop,hs2,hr2,ht2,hl2,hz2⟩;have HQ2:=Hd (HQ1.out.call hs2 ht2);have HR2:=Hd hr2;have x1:w2.cell? ⟨b+1,1,none⟩=some (.int .u8 0):=by rw[HBw.out];exact HQ2.out.bx.cell 1
    have xf1:w2.frozen? ⟨b+1,1,none⟩=false:=by rw[HBw.out];exact HQ2.out.bx.frozen 1
    have xl:b+1<w2.heap.size:=by rw[HBw.out];exact HQ2.out.bx.lt
    clear hs2 hr2 ht2 hl2 hz2)
  |fail)
 obtain⟨W2,hW2⟩:∃W2,W2=w2.setCell ⟨b+1,1,none⟩ (.int .u8 op):=⟨_,rfl⟩
 have HQ2:=Hd (show QSt 32 _ w g s at2 e2 #[.string nm,.int .u8 op,.int .i64 0,.string ⟨#[]⟩,.string ⟨#[]⟩] W2 from by rw[hW2,HBw.out];exact HQ2.out.set 1 (.int .u8 op))
 rw[←hW2]
 clear hW2 x1 xf1 xl
 have x1:W2.cell? ⟨b+1,1,none⟩=some (.int .u8 op):=by rw[HBw.out];exact HQ2.out.bx.cell 1
 have xl:b+1<W2.heap.size:=by rw[HBw.out];exact HQ2.out.bx.lt
 by_cases h0:op=0
 ·subst h0
  have x0:W2.cell? ⟨b+1,0,none⟩=some (.string nm):=by rw[HBw.out];exact HQ2.out.bx.cell 0
  have x2:W2.cell? ⟨b+1,2,none⟩=some (.int .i64 0):=by rw[HBw.out];exact HQ2.out.bx.cell 2
  have x3:W2.cell? ⟨b+1,3,none⟩=some (.string ⟨#[]⟩):=by rw[HBw.out];exact HQ2.out.bx.cell 3
  have x4:W2.cell? ⟨b+1,4,none⟩=some (.string ⟨#[]⟩):=by rw[HBw.out];exact HQ2.out.bx.cell 4
  have HBr:=Hd (show Blk W2 b 32 #[.string ⟨#[]⟩,.int .u8 0,.int .i64 0,.string ⟨#[]⟩,.string ⟨#[]⟩]from by rw[HBw.out];exact HQ2.out.br)
  have x1':W2.cell? ⟨b+1,1,none⟩=some (.int .u8 0):=x1
  clear x1
  go_wp2_with (first
   |(refine wpList_store_rowTo rfl 32 (.tmp 2) (.tmp 17) rfl rfl b #[.string nm,.int .u8 0,.int .i64 0,.string ⟨#[]⟩,.string ⟨#[]⟩] rfl (by kernel_rfl) 32 _ HBr.out (by kernel_rfl) rfl (by kernel_rfl) ?_)
   |fail)
  have HD:=Hd (HQ2.out.done (c:= #[.string nm,.int .u8 0,.int .i64 0,.string ⟨#[]⟩,.string ⟨#[]⟩]) rfl)
  rw[←HBw.out]at HD
  exact bodyPost_ret (results_cell_row rfl _ _ b 32 _ (0,0) _ rfl HD.out.1 Tryz.underlying32 rfl (by kernel_rfl)) rfl ⟨⟨nm,0,0,⟨#[]⟩,⟨#[]⟩⟩,at2,e2,rfl,⟨show nm.size≤64 by have:=HR1.out.1;omega,⟨Int.le_refl 0,show(0:Int)<256 by decide⟩,⟨Int.le_refl 0,show(0:Int)≤2147483647 by decide⟩,show(0:Nat)≤64 by decide,show(0:Nat)≤64 by decide⟩,HD.out.2.1,Al HR1.out.2 (Al HR2.out (by rw[if_pos rfl];exact A5 _)),HD.out.2.2⟩
 ·have hob:((op:Int) !=0)=true:=by simpa using h0
  have HN3:=Hd (Fq HQ2.out.ds)
  have HOp:=Hd (And.intro h0 hop)
  go_upto_region 6 with (first
   |(go_at_call 106;(with_reducible refine HN3.out.mono ?_);rintro r w3 ⟨ep,ver,rel,at3,e3,rfl,hv3,hs3,hr3,ht3⟩;have HQ3:=Hd (HQ2.out.call hs3 ht3);have HR3:=Hd (And.intro hv3 hr3);have y2:w3.cell? ⟨b+1,2,none⟩=some (.int .i64 0):=by rw[HBw.out];exact HQ3.out.bx.cell 2
     have y3:w3.cell? ⟨b+1,3,none⟩=some (.string ⟨#[]⟩):=by rw[HBw.out];exact HQ3.out.bx.cell 3
     have y4:w3.cell? ⟨b+1,4,none⟩=some (.string ⟨#[]⟩):=by rw[HBw.out];exact HQ3.out.bx.cell 4
     have yf2:w3.frozen? ⟨b+1,2,none⟩=false:=by rw[HBw.out];exact HQ3.out.bx.frozen 2
     have yf3:w3.frozen? ⟨b+1,3,none⟩=false:=by rw[HBw.out];exact HQ3.out.bx.frozen 3
     have yf4:w3.frozen? ⟨b+1,4,none⟩=false:=by rw[HBw.out];exact HQ3.out.bx.frozen 4
     have yl:b+1<w3.heap.size:=by rw[HBw.out];exact HQ3.out.bx.lt
     clear hv3 hs3 hr3 ht3)
   |fail)
  obtain⟨W3,hW3⟩:∃W3,W3=((w3.setCell ⟨b+1,2,none⟩ (.int .i64 ep)).setCell ⟨b+1,3,none⟩ (.string ver)).setCell ⟨b+1,4,none⟩ (.string rel):=⟨_,rfl⟩
  have HQ3:=Hd (show QSt 32 _ w g s at3 e3 #[.string nm,.int .u8 op,.int .i64 ep,.string ver,.string rel] W3 from by rw[hW3,HBw.out];exact((HQ3.out.set 2 (.int .i64 ep)).set 3 (.string ver)).set 4 (.string rel))
  rw[←hW3]
  clear hW3 x1 xl y2 y3 y4 yf2 yf3 yf4 yl
  have x0:W3.cell? ⟨b+1,0,none⟩=some (.string nm):=by rw[HBw.out];exact HQ3.out.bx.cell 0
  have x1:W3.cell? ⟨b+1,1,none⟩=some (.int .u8 op):=by rw[HBw.out];exact HQ3.out.bx.cell 1
  have x2:W3.cell? ⟨b+1,2,none⟩=some (.int .i64 ep):=by rw[HBw.out];exact HQ3.out.bx.cell 2
  have x3:W3.cell? ⟨b+1,3,none⟩=some (.string ver):=by rw[HBw.out];exact HQ3.out.bx.cell 3
  have x4:W3.cell? ⟨b+1,4,none⟩=some (.string rel):=by rw[HBw.out];exact HQ3.out.bx.cell 4
  have xl:b+1<W3.heap.size:=by rw[HBw.out];exact HQ3.out.bx.lt
  have HBr:=Hd (show Blk W3 b 32 #[.string ⟨#[]⟩,.int .u8 0,.int .i64 0,.string ⟨#[]⟩,.string ⟨#[]⟩]from by rw[HBw.out];exact HQ3.out.br)
  go_wp2_with (first
   |(refine wpList_store_rowTo rfl 32 (.tmp 2) (.tmp 17) rfl rfl b #[.string nm,.int .u8 op,.int .i64 ep,.string ver,.string rel] rfl (by kernel_rfl) 32 _ HBr.out (by kernel_rfl) rfl (by kernel_rfl) ?_)
   |fail)
  have HD:=Hd (HQ3.out.done (c:= #[.string nm,.int .u8 op,.int .i64 ep,.string ver,.string rel]) rfl)
  rw[←HBw.out]at HD
  exact bodyPost_ret (results_cell_row rfl _ _ b 32 _ (0,0) _ rfl HD.out.1 Tryz.underlying32 rfl (by kernel_rfl)) rfl ⟨⟨nm,op,ep,ver,rel⟩,at3,e3,rfl,⟨show nm.size≤64 by have:=HR1.out.1;omega,⟨show(0:Int)≤op by omega,show(op:Int)<256 by have:=HOp.out.2;omega⟩,⟨HR3.out.1.1,HR3.out.1.2.1⟩,HR3.out.1.2.2.1,HR3.out.1.2.2.2⟩,HD.out.2.1,Al HR1.out.2 (Al HR2.out (by rw[if_neg HOp.out.1];exact Ds HR3.out.2)),HD.out.2.2⟩
theorem Ex {g:Nat} {s:ByteArray} {at_:Nat} {e:Int} {w:World} (h:DR g s at_ e w):Calls Tryz.prog 107 #[.pointer (some ⟨g,0,none⟩)] w
 fun ret w'=>∃(l:List Ax) (v:Value) (at2:Nat) (e2:Int),ret= .returned v∧l.length≤32∧LIn AW (Am w.heap.size) w' l v∧DR g s at2 e2 w'∧Res Jn s at_ e l at2 e2∧Ae (·=g) w w':=by
 have HN:=Hd (DE h 0 32 (by decide))
 have HL0:=Hd (DLs.start h AW 32)
 obtain⟨iD,hiD,hz0,hz1,hz2⟩:=Q0
 clear h
 go_enter Tryz.func107,Tryz.ntmps107
 go_wp2_with (first
  |(go_at_call 57;(with_reducible refine HN.out.mono ?_);rintro r w1 ⟨n,at1,e1,rfl,hn,hs1,hr1,ht1,hl1,hz1'⟩;have HL1:=Hd (HL0.out.call hs1 ht1);have HR1:=Hd (DGo.start (p:=GZ) hr1);clear hs1 hr1 ht1 hl1 hz1')
  |fail)
 go_loopw [3,5] (fun v i wr=>∃(k:Nat) (l:List Ax) (ao:Option Addr) (cp a:Nat) (e1:Int),k≤n∧i= .int .i64 k∧l.length=k∧v= .slice ao k cp∧Hid (DLs AW 32 w g s a e1 l (.slice ao k cp) wr∧DGo GZ 0 32 s at_ e n k l a e1)) (fun _ i _=>n-(intOf i).toNat)
 case atStart=>exact⟨0,[],none,0,at1,e1,by omega,rfl,rfl,rfl,HL1.out,HR1.out⟩
 case round=>
  obtain⟨k,l,ao,cp,a,e2,hk,rfl,hl,rfl,HQ⟩:=hrel
  have HLe:=Hd hl
  have c2:wr.cell? ⟨g,2,none⟩=some (.int .i64 e2):=HQ.out.1.ds.rb.cell 2
  have cl:=HQ.out.1.ds.rb.lt
  clear hl
  by_cases hlt:k<n
  ·have hki:(k:Int)<(n:Int):=by omega
   by_cases he:e2=0
   ·subst he
    have HM:=Hd (Fr HQ.out.1.ds)
    have HLt:=Hd hlt
    obtain⟨xs,hown,hone⟩:=HQ.out.1.ac.own
    rw[HLe.out]at hown
    have HO4:=Hd hown
    have HN4:=Hd hone
    clear hown hone
    go_wp2_with (first
     |(go_at_call 153;(with_reducible refine HM.out.mono ?_);rintro r w2 ⟨d,at2,e2,rfl,hd,hs2,hr2,ht2⟩;have HL2:=Hd (HQ.out.1.call hs2 ht2);have HG2:=Hd (HQ.out.2.step HLt.out hr2);have HDs:=Hd hd;have HT2:=Hd ht2;clear hs2 hr2 ht2 hd)
     |(at_builtin;(refine AC _ rfl (.tmp 20) (.tmp 23) _ _ rfl 32 iD _ 5 64 Tryz.underlying25 hiD hz0 hz1 hz2 rfl (by omega) (.slice ao k cp) k xs rfl ((HO4.out.touch HT2.out fun q hq hg=>by have:=(HQ.out.1.ownB q hq).1;have:=HQ.out.1.lt;omega).alloc _) HN4.out (.slice (some ⟨w2.heap.size,0,none⟩) 1 1) 1 d.cs rfl (Ll w2 d) (by simp only[maxLen];omega) (by omega) ?_);rintro ao' cap' w7 hn1 hn2 hO7 hg7 hat7 hlt7;have HZ7:=Hd (And.intro hO7 (And.intro hg7 hat7));clear hn1 hn2 hO7 hg7 hat7 hlt7)
     |fail)
    have HS7:=Hd (show DLs AW 32 w g s at2 e2 (l++ [d]) (.slice ao' (k+1) cap') w7 from by
     have hw:=HL2.out.tc.size
     refine(HL2.out.below (Ag w2 (.cells #[.string d.name,.int .u8 d.op,.int .i64 d.ep,.string d.ver,.string d.rel] 32))).push (r:=()) (m0:=wr.heap.size) (xs:=xs) ?_ HQ.out.1.tc.size (fun q hq=>(HQ.out.1.ownB q hq).2) HDs.out.fit ?_ HZ7.out.2.1 HZ7.out.2.2
     ·rw[HLe.out]
      exact(HO4.out.touch HT2.out fun q hq hg=>by have:=(HQ.out.1.ownB q hq).1;have:=HQ.out.1.lt;omega).alloc _
     ·rw[HLe.out]
      exact HZ7.out.1)
    go_roundw
    case rel=>exact⟨k+1,l++ [d],ao',cap',at2,e2,HLt.out,by go_num,by rw[List.length_append,HLe.out];rfl,rfl,HS7.out,HG2.out⟩
    case measure=>have:=HLt.out;simp[intOf];omega
   ·have heb:(e2==0)=false:=by simpa using he
    have HE:=Hd he
    have hlk:=HQ.out.1.ac.done (by rw[HLe.out];omega) (by decide)
    have HLk:=Hd hlk
    have hk32:k≤32:=by omega
    clear hlk
    go_wp2_with fail
    go_ret
    exact⟨l,_,a,e2,rfl,by rw[HLe.out];omega,HLk.out,HQ.out.1.ds,HQ.out.2.bad HE.out,HQ.out.1.tc⟩
  ·obtain rfl:k=n:=by omega
   have HLk:=Hd (HQ.out.1.ac.done (by rw[HLe.out];omega) (by decide))
   go_wp2_with fail
   go_ret
   exact⟨l,_,a,e2,rfl,by rw[HLe.out];omega,HLk.out,HQ.out.1.ds,HQ.out.2.done,HQ.out.1.tc⟩
def KW (e:Int) (a n:Nat):Int:=if e=0∧a<n then 10 else e
def dAt (e:Int) (a:Nat):Int:=if e=0 then 0 else(a:Int)
section
variable {g:Nat} {s:ByteArray} {at_:Nat} {e:Int} {w:World}
theorem GF (h:DR g s at_ e w):Calls Tryz.prog 60 #[.pointer (some ⟨g,0,none⟩)] w
 fun r w'=>r= .returned (.tuple #[.int .i64 (dAt e at_),.int .i64 e])∧Below w.heap.size w w':=by
 have x1:w.cell? ⟨g,1,none⟩=some (.int .i64 at_):=h.rb.cell 1
 have x2:w.cell? ⟨g,2,none⟩=some (.int .i64 e):=h.rb.cell 2
 have xl:=h.rb.lt
 clear h
 by_cases he:e=0
 ·subst he
  go_enter Tryz.func60,Tryz.ntmps60
  go_wp2_with fail
  go_ret2
  exact⟨rfl,Below.refl _ _⟩
 ·have heb:(e==0)=false:=by simpa using he
  have HE:=Hd he
  clear he
  go_enter Tryz.func60,Tryz.ntmps60
  go_wp2_with fail
  go_quiet (fail)
  go_wp2_with fail
  go_ret2
  have:=HE.out
  exact⟨by unfold dAt;rw[if_neg this];rfl,AD (Below.refl _ _) _⟩
theorem Ou (h:DR g s at_ e w):Calls Tryz.prog 59 #[.pointer (some ⟨g,0,none⟩)] w
 fun r w'=>r= .returned (.int .i64 (KW e at_ s.size))∧DR g s at_ (KW e at_ s.size) w'∧Ae (·=g) w w':=by
 have x0:w.cell? ⟨g,0,none⟩=some (.string s):=h.rb.cell 0
 have x1:w.cell? ⟨g,1,none⟩=some (.int .i64 at_):=h.rb.cell 1
 have x2:w.cell? ⟨g,2,none⟩=some (.int .i64 e):=h.rb.cell 2
 have xf2:w.frozen? ⟨g,2,none⟩=false:=h.rb.frozen 2
 have xl:=h.rb.lt
 have HD:=Hd h
 clear h
 by_cases he:e=0
 ·subst he
  by_cases hl:at_<s.size
  ·have hli:(at_:Int)<(s.size:Int):=by omega
   have HL:=Hd hl
   go_enter Tryz.func59,Tryz.ntmps59
   go_wp2_with fail
   go_quiet (fail)
   go_wp2_with fail
   go_ret
   have hl2:=HL.out
   have hb:=AD (Below.refl w.heap.size w) nq
   have he:KW 0 at_ s.size=10:=if_pos ⟨rfl,hl2⟩
   rw[he]
   exact⟨rfl,⟨(HD.out.below hb).rb.set_ 2 (.int .i64 10),HD.out.hat,HD.out.hs⟩,(Ae.of_below hb (·=g)).setCell (p:=⟨g,2,none⟩) (fun _=>rfl) _⟩
  ·have hli:¬(at_:Int)<(s.size:Int):=by omega
   have HL:=Hd hl
   go_enter Tryz.func59,Tryz.ntmps59
   go_wp2_with fail
   go_quiet (fail)
   go_wp2_with fail
   go_ret
   have hl2:=HL.out
   have hb:=AD (Below.refl w.heap.size w) nq
   have he:KW 0 at_ s.size=0:=if_neg fun h=>hl2 h.2
   rw[he]
   exact⟨rfl,HD.out.below hb,Ae.of_below hb _⟩
 ·have heb:(e==0)=false:=by simpa using he
  have HE:=Hd he
  clear he
  go_enter Tryz.func59,Tryz.ntmps59
  go_wp2_with fail
  go_quiet (fail)
  go_wp2_with fail
  go_ret
  have he2:=HE.out
  have hb:=AD (Below.refl w.heap.size w) nq
  have he:KW e at_ s.size=e:=if_neg fun h=>he2 h.1
  rw[he]
  exact⟨rfl,HD.out.below hb,Ae.of_below hb _⟩
theorem H6 (h:DR g s at_ 0 w) (place:Nat) (hp:place≤at_) (x:Int) (hx:x≠0):Calls Tryz.prog 109 #[.pointer (some ⟨g,0,none⟩),.int .i64 place,.int .i64 x] w
 fun r w'=>r= .returned (.int .i64 x)∧DR g s place x w'∧Ae (·=g) w w':=by
 have x1:w.cell? ⟨g,1,none⟩=some (.int .i64 at_):=h.rb.cell 1
 have x2:w.cell? ⟨g,2,none⟩=some (.int .i64 0):=h.rb.cell 2
 have xf1:w.frozen? ⟨g,1,none⟩=false:=h.rb.frozen 1
 have xf2:w.frozen? ⟨g,2,none⟩=false:=h.rb.frozen 2
 have xl:=h.rb.lt
 have HD:=Hd h
 have hp':decide ((at_:Int)<(place:Int))=false:=by simp;omega
 have hp'':¬at_<place:=by omega
 have hxb:(x==0)=false:=by simpa using hx
 have HX:=Hd hx
 have HP:=Hd hp
 clear h hx hp
 go_enter Tryz.func109,Tryz.ntmps109
 go_wp2_with fail
 go_ret
 have HD2:=(HD.out.rb.set_ 1 (.int .i64 place)).set_ 2 (.int .i64 x)
 exact⟨rfl,⟨HD2,by have:=HP.out;have:=HD.out.hat;omega,HD.out.hs⟩,((Ae.refl (·=g) w).setCell (p:=⟨g,1,none⟩) (fun _=>rfl) _).setCell (p:=⟨g,2,none⟩) (fun _=>rfl) _⟩
theorem Oi (s:ByteArray) (w:World) (hs:4194304<s.size):Calls Tryz.prog 56 #[.string s] w
 fun r w'=>r= .returned (.tuple #[.pointer none,.int .i64 40])∧w'=w:=by
 have hs':(4194304:Int)<(s.size:Int):=by omega
 go_enter Tryz.func56,Tryz.ntmps56
 go_wp2_with fail
 go_ret2
 exact⟨rfl,rfl⟩
theorem Oj (s:ByteArray) (w:World) (hs:s.size≤4194304):Calls Tryz.prog 56 #[.string s] w
 fun r w'=>r= .returned (.tuple #[.pointer (some ⟨w.heap.size,0,none⟩),.int .i64 0])∧DR w.heap.size s 0 0 w'∧Below w.heap.size w w':=by
 have hs':¬(4194304:Int)<(s.size:Int):=by omega
 go_enter Tryz.func56,Tryz.ntmps56
 go_wp2_with fail
 go_ret2
 exact⟨rfl,⟨Blk.new _ _ _,by omega,by omega⟩,Ag _ _⟩
end
end Go.Proofs.YtdpjjnbelgaagaaGreatDoor
