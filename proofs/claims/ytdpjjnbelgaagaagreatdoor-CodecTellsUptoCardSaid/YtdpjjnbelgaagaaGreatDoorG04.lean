/- The plain laws of places: what may be at one may be at the ones before; parts may be where the whole may. Conditions: as each theorem names them. -/
import Derived.Test.YtdpjjnbelgaagaaGreatDoorG03
import Derived.Deep.RegionHeld3
import Derived.Test.YtdpjjnbelgaagaaGreatDoorRows
import Derived.Test.YtdpjjnbelgaagaaGreatDoorG01
import Derived.Laws.BytesArg
import Derived.BigQuiet
import Derived.Deep.RegionWith
import Derived.Laws.Concat
namespace Go.Proofs.YtdpjjnbelgaagaaGreatDoor
set_option maxRecDepth 100000
theorem JC {wh:Int} {x:OJ}:Cw wh x=true↔wh≤(Fh x.1).wher∧(x.2.2.2=true→(Fh x.1).alone=true)∧(Fh x.1).least≤(x.2.2.1:Int)∧(x.2.2.1:Int)≤(Fh x.1).most∧(if x.1=1 then Ca x.2.1 else x.2.1.none)=true:=by
 unfold Cw
 simp only[Bool.and_eq_true,Bool.not_eq_true',decide_eq_false_iff_not,Int.not_lt]
 constructor
 ·rintro⟨h1,h2,h3,h4,h5⟩
  refine⟨h1,fun h=> ?_,h3,h4,h5⟩
  rw[h]at h2
  simpa using h2
 ·rintro⟨h1,h2,h3,h4,h5⟩
  refine⟨h1,?_,h3,h4,h5⟩
  cases h:x.2.2.2 with
  |false=>rfl
  |true=>rw[h2 h];rfl
theorem LV {α:Type} {p:α→Bool} {f:Nat→List α}:∀n,(B3 f n).all p=true↔∀j,j<n→(f j).all p=true
 |0=>by simp[B3]
 |n+1=>by
  simp only[B3,List.all_append,Bool.and_eq_true,LV n]
  constructor
  ·rintro⟨h1,h2⟩ j hj
   by_cases e:j=n
   ·subst e;exact h2
   ·exact h1 j (by omega)
  ·exact fun h=>⟨fun j hj=>h j (by omega),h n (by omega)⟩
theorem Pm {r:Ac} {wh:Int}:CS r wh=0↔1≤wh∧wh≤3∧r.count≤24∧r.depth≤8∧(r.parts false).all (Cw wh)=true:=by
 unfold CS
 constructor
 ·intro h
  split at h
  ·cases h
  ·split at h
   ·cases h
   ·split at h
    ·cases h
    ·split at h
     ·exact⟨by omega,by omega,by omega,by omega,by assumption⟩
     ·cases h
 ·rintro⟨h1,h2,h3,h4,h5⟩
  rw[if_neg (by omega),if_neg (by omega),if_neg (by omega),if_pos h5]
theorem Dp {r:Ac} {j:Nat} (hj:j<r.n):(r.args j).count<r.count:=by
 have h1:=Df (f:=fun j=>(r.args j).count) (show j+1≤r.n by omega)
 simp only[Bz]at h1
 have:=BX r
 omega
set_option maxHeartbeats 32000000
open Go.ChangeShapes Go.WideShapes Go.ChangeAt Go.RowKit Go.Deep
theorem CP {p:Nat→Bool}:∀n,CQ p n=true↔∀j,j<n→p j=true
 |0=>by simp[CQ]
 |n+1=>by
  simp only[CQ,Bool.and_eq_true,CP n]
  constructor
  ·rintro⟨h1,h2⟩ j hj
   by_cases e:j=n
   ·subst e;exact h2
   ·exact h1 j (by omega)
  ·exact fun h=>⟨fun j hj=>h j (by omega),h n (by omega)⟩
theorem C5 {a b:Ac}:As a b=true↔a.kind=b.kind∧a.dep=b.dep∧a.n=b.n∧∀j,j<a.n→As (a.args j) (b.args j)=true:=by
 rw[Eu]
 simp only[Bool.and_eq_true,decide_eq_true_eq,BV,CP]
theorem Hc:(r:Ac)→As r r=true
 | .nil=>by rw[C5];exact⟨rfl,rfl,rfl,fun j hj=>absurd hj (Nat.not_lt_zero j)⟩
 | .node k d n f=>by
   rw[C5]
   exact⟨rfl,rfl,rfl,fun j _=>Hc (f j)⟩
theorem CF:(a b:Ac)→As a b=true→As b a=true
 | .nil,b,h=>by
   rw[C5]at h ⊢
   exact⟨h.1.symm,h.2.1.symm,h.2.2.1.symm,fun j hj=>absurd (h.2.2.1▸hj:j<Ac.nil.n) (Nat.not_lt_zero j)⟩
 | .node k d n f,b,h=>by
   rw[C5]at h ⊢
   exact⟨h.1.symm,h.2.1.symm,h.2.2.1.symm,fun j hj=>CF (f j) _ (h.2.2.2 j (by rw[h.2.2.1];exact hj))⟩
theorem Ig {α:Type} {f g:Nat→List α}:∀n,(∀j,j<n→f j=g j)→B3 f n=B3 g n
 |0,_=>rfl
 |n+1,h=>by
  simp only[B3]
  rw[Ig n (fun j hj=>h j (by omega)),h n (by omega)]
theorem Au.node_n {w:World} {r:Ac} {s:Value} (h:Au w r s):Fd r.kind r.dep:=by
 cases h
 assumption
theorem Qn {a b:Ac} (h:¬a.n=b.n):As a b=false:=by rw[Eu,decide_eq_false h];simp
theorem Md (W:World) (r:Ac):∀(s:Value) (r2:Ac) (s2:Value) (w:World),Au W r s→Au W r2 s2→Below W.heap.size W w→
 Calls Tryz.prog 148 #[r.val s,r2.val s2] w fun e w'=>e= .returned (.bool (As r r2))∧Below w.heap.size w w':=by
 have step:∀(r:Ac) (s:Value) (r2:Ac) (s2:Value) (w:World),Au W r s→Au W r2 s2→Below W.heap.size W w→
  (∀j,j<r.n→∀(s:Value) (r2:Ac) (s2:Value) (w:World),Au W (r.args j) s→Au W r2 s2→Below W.heap.size W w→Calls Tryz.prog 148 #[(r.args j).val s,r2.val s2] w fun e w'=>e= .returned (.bool (As (r.args j) r2))∧Below w.heap.size w w')→
  Calls Tryz.prog 148 #[r.val s,r2.val s2] w fun e w'=>e= .returned (.bool (As r r2))∧Below w.heap.size w w':=by
  intro r s r2 s2 w hs hs2 hB ih
  obtain⟨a,c,rfl⟩:=hs.form
  obtain⟨a2,c2,rfl⟩:=hs2.form
  have hn:=hs.bound
  have hn2:=hs2.bound
  obtain⟨S,hA,hS⟩:=hs.elems2
  obtain⟨S2,hA2,hS2⟩:=hs2.elems2
  obtain⟨T,hT⟩:∃T,T=As r r2:=⟨_,rfl⟩
  rw[←hT]
  have HT:=Hd hT
  obtain⟨w2,hw2⟩:∃w2,w2=(w.alloc (AT r (.slice a r.n c))).alloc (AT r2 (.slice a2 r2.n c2)):=⟨_,rfl⟩
  obtain⟨g,hg⟩:∃g,g=w.heap.size:=⟨_,rfl⟩
  have hb2:Below w.heap.size w w2:=by rw[hw2];exact Aa (Ag _ _) (Ag _ _)
  have HR0:=Hd (show AH w2 g 0 r (.slice a r.n c)∧AH w2 (g+1) 0 r2 (.slice a2 r2.n c2)∧Below w.heap.size w w2 from⟨by rw[hw2,hg];exact(C6 _ _ _).below (Ag _ _),by
   rw[hw2,hg]
   have h:=C6 (w.alloc (AT r (.slice a r.n c))) r2 (.slice a2 r2.n c2)
   rwa [World.size_alloc]at h,hb2⟩)
  have HBW:=Hd hB
  obtain⟨⟨d0,d1,d2,d3,d4,d5,d6,d7⟩,⟨e0,e1,e2,e3,e4,e5,e6,e7⟩,_⟩:=HR0.out
  simp only[Nat.zero_add]at d1 d2 d3 d4 d5 d6 e1 e2 e3 e4 e5 e6
  by_cases hnn:r.n=r2.n
  ·have HE:=Hd (show∀w',Below W.heap.size W w'→∀j,j<r.n→(∃b o,a=some ⟨b,o,none⟩∧AH w' b (o+j*7) (r.args j) (S j))∧∃b o,a2=some ⟨b,o,none⟩∧AH w' b (o+j*7) (r2.args j) (S2 j)from fun w' h j hj=>by
    obtain⟨b,o,h1,h2⟩:=hA j hj
    obtain⟨b',o',h3,h4⟩:=hA2 j (by omega)
    exact⟨⟨b,o,h1,h2.below h⟩,b',o',h3,h4.below h⟩)
   have HI:=Hd (show∀j,j<r.n→∀w',Below W.heap.size W w'→Calls Tryz.prog 148 #[(r.args j).val (S j),(r2.args j).val (S2 j)] w' fun e w''=>e= .returned (.bool (As (r.args j) (r2.args j)))∧Below w'.heap.size w' w'' from fun j hj w' h=>ih j hj _ _ _ w' (hS j hj) (hS2 j (by omega)) h)
   have HSf:=Hd (show∀j,j<r.n→(∃a' c',S j= .slice a' (r.args j).n c')∧∃a' c',S2 j= .slice a' (r2.args j).n c' from fun j hj=>⟨(hS j hj).form,(hS2 j (by omega)).form⟩)
   have HNN:=Hd hnn
   have hn3:(r2.n:Int)=(r.n:Int):=by omega
   rw[←hnn]at hw2 HR0 e6 ⊢
   clear hT hA hA2 hS hS2 hs hs2 ih hB hn3 hn2 hnn hb2
   unfold Ac.val Be
   go_enter Tryz.func148,Tryz.ntmps148
   go_upto_region 1 with fail
   rw[←hw2,←hg]
   clear hw2 hg
   go_wp2_with fail
   rotate_left
   all_goals first
    |(go_ret
      first
       |exact⟨Af ((HT.out.trans (Cb (FX (by assumption)))).symm),HR0.out.2.2⟩
       |exact⟨Af ((HT.out.trans (Cb (FW (by assumption)))).symm),HR0.out.2.2⟩
       |exact⟨Af ((HT.out.trans (Cb (IR (by assumption)))).symm),HR0.out.2.2⟩
       |exact⟨Af ((HT.out.trans (Cb (IQ (by assumption)))).symm),HR0.out.2.2⟩
       |exact⟨Af ((HT.out.trans (Cb (ET (by assumption)))).symm),HR0.out.2.2⟩
       |exact⟨Af ((HT.out.trans (Hg (by assumption))).symm),HR0.out.2.2⟩)
    |skip
   have HTT:=Hd (show T=CQ (fun j=>As (r.args j) (r2.args j)) r.n by
    rw[HT.out,Hb (by assumption) (EU (by assumption) (by assumption) (by assumption) (by assumption) (by assumption))]
    unfold GR
    rw[decide_eq_true HNN.out]
    rfl)
   clear HT
   go_loopw [5] (fun i wr=>∃k:Nat,k≤r.n∧i= .int .i64 k∧Hid (CQ (fun j=>As (r.args j) (r2.args j)) k=true)∧Hid (AH wr g 0 r (.slice a r.n c)∧AH wr (g+1) 0 r2 (.slice a2 r.n c2)∧Below w.heap.size w wr)) (fun i wr=>r.n-(intOf i).toNat)
   case atStart=>exact⟨0,by omega,rfl,Hd rfl,HR0⟩
   case round=>
    obtain⟨k,hk,rfl,HQ,HRk⟩:=hrel
    have d6:=HRk.out.1.c6
    have e6:=HRk.out.2.1.c6
    simp only[Nat.zero_add]at d6 e6
    have d7:=HRk.out.1.lt
    have e7:=HRk.out.2.1.lt
    by_cases hlt:k<r.n
    ·have hki:(k:Int)<(r.n:Int):=by omega
     have HB2:=Hd (HBW.out.trans (HRk.out.2.2.mono HBW.out.size))
     obtain⟨⟨b,o,ha,hy1⟩,b',o',ha',hf1⟩:=HE.out wr HB2.out k hlt
     subst ha
     subst ha'
     obtain⟨⟨xa,xc,hx⟩,ya,yc,hy⟩:=HSf.out k hlt
     have HM:=Hd (fun w' (h:Below wr.heap.size wr w')=>HI.out k hlt w' (HB2.out.trans (h.mono HB2.out.size)))
     simp only[hx,hy]at HM
     obtain⟨bb,hbb⟩:∃bb,bb=As (r.args k) (r2.args k):=⟨_,rfl⟩
     rw[←hbb]at HM
     have HBb:=Hd hbb
     have HSS:=Hd (show∀w',Below wr.heap.size wr w'→(w'.cell? ⟨g,6,none⟩=some (.slice (some ⟨b,o,none⟩) r.n c)∧w'.cell? ⟨g+1,6,none⟩=some (.slice (some ⟨b',o',none⟩) r.n c2)∧w'.cell? ⟨b,o+k*7,none⟩=some (.int .u8 (r.args k).kind)∧w'.cell? ⟨b,o+k*7+1,none⟩=some (.string (r.args k).dep.name)∧w'.cell? ⟨b,o+k*7+2,none⟩=some (.int .u8 (r.args k).dep.op)∧w'.cell? ⟨b,o+k*7+3,none⟩=some (.int .i64 (r.args k).dep.ep)∧w'.cell? ⟨b,o+k*7+4,none⟩=some (.string (r.args k).dep.ver)∧w'.cell? ⟨b,o+k*7+5,none⟩=some (.string (r.args k).dep.rel)∧w'.cell? ⟨b,o+k*7+6,none⟩=some (.slice xa (r.args k).n xc)∧w'.cell? ⟨b',o'+k*7,none⟩=some (.int .u8 (r2.args k).kind)∧w'.cell? ⟨b',o'+k*7+1,none⟩=some (.string (r2.args k).dep.name)∧w'.cell? ⟨b',o'+k*7+2,none⟩=some (.int .u8 (r2.args k).dep.op)∧w'.cell? ⟨b',o'+k*7+3,none⟩=some (.int .i64 (r2.args k).dep.ep)∧w'.cell? ⟨b',o'+k*7+4,none⟩=some (.string (r2.args k).dep.ver)∧w'.cell? ⟨b',o'+k*7+5,none⟩=some (.string (r2.args k).dep.rel)∧w'.cell? ⟨b',o'+k*7+6,none⟩=some (.slice ya (r2.args k).n yc))from fun w' h=>by
      have q1:=(HRk.out.1.below h).c6
      have q2:=(HRk.out.2.1.below h).c6
      simp only[Nat.zero_add]at q1 q2
      obtain⟨p0,p1,p2,p3,p4,p5,p6,_⟩:=hy1.below h
      obtain⟨t0,t1,t2,t3,t4,t5,t6,_⟩:=hf1.below h
      rw[hx]at p6
      rw[hy]at t6
      exact⟨q1,q2,p0,p1,p2,p3,p4,p5,p6,t0,t1,t2,t3,t4,t5,t6⟩)
     have HDr:=Hd (show Below wr.heap.size wr wr.drew from(Below.refl _ wr).drew)
     obtain⟨y0,y1,y2,y3,y4,y5,y6,y7⟩:=hy1
     obtain⟨f0,f1,f2,f3,f4,f5,f6,f7⟩:=hf1
     simp only[hx,hy]at y6 f6
     clear hbb
     go_upto_region 6 with fail
     go_region_held3 (fun w'=>w'.cell? ⟨g,6,none⟩=some (.slice (some ⟨b,o,none⟩) r.n c)∧w'.cell? ⟨g+1,6,none⟩=some (.slice (some ⟨b',o',none⟩) r.n c2)∧w'.cell? ⟨b,o+k*7,none⟩=some (.int .u8 (r.args k).kind)∧w'.cell? ⟨b,o+k*7+1,none⟩=some (.string (r.args k).dep.name)∧w'.cell? ⟨b,o+k*7+2,none⟩=some (.int .u8 (r.args k).dep.op)∧w'.cell? ⟨b,o+k*7+3,none⟩=some (.int .i64 (r.args k).dep.ep)∧w'.cell? ⟨b,o+k*7+4,none⟩=some (.string (r.args k).dep.ver)∧w'.cell? ⟨b,o+k*7+5,none⟩=some (.string (r.args k).dep.rel)∧w'.cell? ⟨b,o+k*7+6,none⟩=some (.slice xa (r.args k).n xc)∧w'.cell? ⟨b',o'+k*7,none⟩=some (.int .u8 (r2.args k).kind)∧w'.cell? ⟨b',o'+k*7+1,none⟩=some (.string (r2.args k).dep.name)∧w'.cell? ⟨b',o'+k*7+2,none⟩=some (.int .u8 (r2.args k).dep.op)∧w'.cell? ⟨b',o'+k*7+3,none⟩=some (.int .i64 (r2.args k).dep.ep)∧w'.cell? ⟨b',o'+k*7+4,none⟩=some (.string (r2.args k).dep.ver)∧w'.cell? ⟨b',o'+k*7+5,none⟩=some (.string (r2.args k).dep.rel)∧w'.cell? ⟨b',o'+k*7+6,none⟩=some (.slice ya (r2.args k).n yc)) (exact HSS.out _ HDr.out)
      ((first
        |(go_at_call 148;(with_reducible refine(HM.out _ HDr.out).mono ?_);rintro e w1 ⟨rfl,HBc⟩;have HDr:=Hd (Aa HDr.out HBc);clear HBc)))
     have HRx:=Hd (show AH w1 g 0 r (.slice (some ⟨b,o,none⟩) r.n c)∧AH w1 (g+1) 0 r2 (.slice (some ⟨b',o',none⟩) r.n c2)∧Below w.heap.size w w1 from⟨HRk.out.1.below HDr.out,HRk.out.2.1.below HDr.out,Aa HRk.out.2.2 HDr.out⟩)
     cases bb with
     |true=>
      go_wp2_with fail
      go_roundw
      case rel=>exact⟨k+1,by omega,by go_num,Hd (by simp only[CQ];rw[HQ.out,←HBb.out];rfl),HRx⟩
      case measure=>simp[intOf];omega
     |false=>
      have HT2:=Hd (show T=false by rw[HTT.out];exact F0 r.n hlt HBb.out.symm)
      go_wp2_with fail
      go_ret
      exact⟨Af HT2.out.symm,HRx.out.2.2⟩
    ·obtain rfl:k=r.n:=by omega
     have HT2:=Hd (show T=true by rw[HTT.out];exact HQ.out)
     go_wp2_with fail
     go_ret
     exact⟨Af HT2.out.symm,HRk.out.2.2⟩
  ·have h1:¬(r.n:Int)=(r2.n:Int):=by omega
   have HTf:=Hd (show T=false by rw[HT.out];exact Qn hnn)
   clear hT hA hA2 hS hS2 hs hs2 ih hB hn2 hnn hb2 HT
   unfold Ac.val Be
   go_enter Tryz.func148,Tryz.ntmps148
   go_upto_region 1 with fail
   rw[←hw2,←hg]
   clear hw2 hg
   go_wp2_with fail
   all_goals
    go_ret
    exact⟨Af HTf.out.symm,HR0.out.2.2⟩
 induction r with
 |nil=>exact fun s r2 s2 w h1 h2 h3=>step .nil s r2 s2 w h1 h2 h3 (fun j hj=>absurd hj (Nat.not_lt_zero j))
 |node k d n f ih=>exact fun s r2 s2 w h1 h2 h3=>step (.node k d n f) s r2 s2 w h1 h2 h3 (fun j _=>ih j)
inductive Bl (B:Nat→Prop) (w:World):Ac→Value→Prop
 |mk (r:Ac) (a:Option Addr) (c:Nat) (S:Nat→Value) (hd:Fd r.kind r.dep) (hn:r.n≤9223372036854775807)
   (hA:∀j,j<r.n→∃b o,a=some ⟨b,o,none⟩∧B b∧(∀i,w.frozen? ⟨b,i,none⟩=false)∧AH w b (o+j*7) (r.args j) (S j))
   (hS:∀j,j<r.n→Bl B w (r.args j) (S j)):Bl B w r (.slice a r.n c)
theorem Bl.is {B:Nat→Prop} {w:World} {r:Ac} {s:Value} (h:Bl B w r s):Au w r s:=by
 induction h with
 |mk r a c S hd hn hA hS ih=>
  refine .mk r a c S hd hn (fun j hj=> ?_) ih
  obtain⟨b,o,h1,_,_,h2⟩:=hA j hj
  exact⟨b,o,h1,h2⟩
theorem AH.same {w w':World} {b o:Nat} {r:Ac} {s:Value} (h:AH w b o r s) (hb:w'.heap[b]?=w.heap[b]?) (hs:w.heap.size≤w'.heap.size):AH w' b o r s:=by
 have k:∀c,w'.cell? ⟨b,c,none⟩=w.cell? ⟨b,c,none⟩:=fun c=>World.cell?_of_block (w:=w) hb
 exact⟨(k _).trans h.c0,(k _).trans h.c1,(k _).trans h.c2,(k _).trans h.c3,(k _).trans h.c4,(k _).trans h.c5,(k _).trans h.c6,Nat.lt_of_lt_of_le h.lt hs⟩
theorem Bl.keep {B B':Nat→Prop} {w w':World} {r:Ac} {s:Value} (h:Bl B w r s) (hs:w.heap.size≤w'.heap.size) (hk:∀b,B b→b<w.heap.size→w'.heap[b]?=w.heap[b]?∧B' b):Bl B' w' r s:=by
 induction h with
 |mk r a c S hd hn hA hS ih=>
  refine .mk r a c S hd hn (fun j hj=> ?_) ih
  obtain⟨b,o,h1,h2,h3,h4⟩:=hA j hj
  obtain⟨h5,h6⟩:=hk b h2 h4.lt
  exact⟨b,o,h1,h6,fun i=>(World.frozen?_of_block (w:=w) h5).trans (h3 i),h4.same h5 hs⟩
theorem Bl.new_ {B:Nat→Prop} {w w':World} {r:Ac} {s:Value} (h:Bl B w r s) (hb:Below w.heap.size w w'):Bl B w' r s:=
 h.keep hb.size fun b h1 h2=>⟨hb.block b h2,h1⟩
theorem Bl.one {B:Nat→Prop} {w:World} {r:Ac} {s:Value} (h:Bl B w r s):s.oneCell'=true:=by
 cases h
 rfl
def AM (r:Ac) (s:Value):List Value:= [.int .u8 r.kind,.string r.dep.name,.int .u8 r.dep.op,.int .i64 r.dep.ep,.string r.dep.ver,.string r.dep.rel,s]
def enR (f:Nat→Ac) (S:Nat→Value) (k:Nat):List Value:=B3 (fun j=>AM (f j) (S j)) k
theorem II (f:Nat→Ac) (S:Nat→Value):∀k,(enR f S k).length=k*7
 |0=>rfl
 |k+1=>by
  show(enR f S k++AM (f k) (S k)).length=_
  rw[List.length_append,II f S k]
  show k*7+7=(k+1)*7
  omega
theorem N2 (f:Nat→Ac) (S:Nat→Value):∀k j,j<k→∀i,i<7→(enR f S k)[j*7+i]?=(AM (f j) (S j))[i]?
 |0,_,h,_,_=>by omega
 |k+1,j,h,i,hi=>by
  show(enR f S k++AM (f k) (S k))[j*7+i]?=_
  have hl:=II f S k
  by_cases e:j=k
  ·subst e
   rw[List.getElem?_append_right (by omega),hl,Nat.add_sub_cancel_left]
  ·rw[List.getElem?_append_left (by omega)]
   exact N2 f S k j (by omega) i hi
theorem FT {f:Nat→Ac} {S:Nat→Value}:∀k,(∀j,j<k→(S j).oneCell'=true)→∀u∈enR f S k,u.oneCell'=true
 |0,_,u,h=>by cases h
 |k+1,hS,u,h=>by
  rcases List.mem_append.1 (show u∈enR f S k++AM (f k) (S k)from h)with h|h
  ·exact FT k (fun j hj=>hS j (by omega)) u h
  ·simp only[AM,List.mem_cons,List.not_mem_nil,or_false]at h
   rcases h with rfl|rfl|rfl|rfl|rfl|rfl|rfl
   all_goals first|rfl|exact hS k (by omega)
theorem MO {f:Nat→Ac} {S S':Nat→Value} (k:Nat) (h:∀j,j<k→S j=S' j):enR f S k=enR f S' k:=
 Ig k fun j hj=>by rw[h j hj]
structure BF (n0:Nat) (w:World) (r:Ac) (s:Value):Prop where
 hd:Fd r.kind r.dep
 hn:r.n≤9223372036854775807
 ar:∃S,Own w 34 7 s r.n (enR r.args S r.n)∧(∀k,s.ownBlock=some k→n0≤k)∧∀j,j<r.n→Bl (fun b=>n0≤b∧s.ownBlock≠some b) w (r.args j) (S j)
theorem Own.rich {w:World} {ao:Option Addr} {c n:Nat} {f:Nat→Ac} {S:Nat→Value} (h:Own w 34 7 (.slice ao n c) n (enR f S n)) (j:Nat) (hj:j<n):∃b o,ao=some ⟨b,o,none⟩∧(Value.slice ao n c).ownBlock=some b∧(∀i,w.frozen? ⟨b,i,none⟩=false)∧AH w b (o+j*7) (f j) (S j):=by
 obtain⟨ao',c',he,_,_,hc⟩:=h.form
 injection he with he _ _
 subst he
 obtain⟨g,off,rfl,hcells,hf,hlt⟩:=hc (by omega)
 have k:∀i,i<7→w.cell? ⟨g,off+j*7+i,none⟩=(AM (f j) (S j))[i]?:=fun i hi=>by
  rw[Nat.add_assoc,hcells (j*7+i) (by rw[II];omega),N2 f S n j hj i hi]
 exact⟨g,off,rfl,rfl,hf,k 0 (by omega),k 1 (by omega),k 2 (by omega),k 3 (by omega),k 4 (by omega),k 5 (by omega),k 6 (by omega),hlt⟩
theorem BF.in_ {n0:Nat} {w:World} {r:Ac} {s:Value} (h:BF n0 w r s):Bl (fun b=>n0≤b) w r s:=by
 obtain⟨hd,hn,S,hO,hi,hA⟩:=h
 obtain⟨ao,c,rfl,_⟩:=hO.form
 refine .mk r ao c S hd hn (fun j hj=> ?_) (fun j hj=>(hA j hj).keep (Nat.le_refl _) fun b h1 _=>⟨rfl,h1.1⟩)
 obtain⟨b,o,h1,h2,h3,h4⟩:=hO.rich j hj
 exact⟨b,o,h1,hi b h2,h3,h4⟩
theorem Gt:∃i,Tryz.prog.info? 34=some i∧i.zero=some (.agg #[.int .u8 0,.string ⟨#[]⟩,.int .u8 0,.int .i64 0,.string ⟨#[]⟩,.string ⟨#[]⟩,.slice none 0 0])∧i.size=7∧i.bytes=96:=
 info_parts (P:=Tryz.prog) (e:=34) (z:= .agg #[.int .u8 0,.string ⟨#[]⟩,.int .u8 0,.int .i64 0,.string ⟨#[]⟩,.string ⟨#[]⟩,.slice none 0 0]) (size:=7) (bytes:=96) (by kernel_rfl)
abbrev BQ:Array Value:= #[.int .u8 0,.string ⟨#[]⟩,.int .u8 0,.int .i64 0,.string ⟨#[]⟩,.string ⟨#[]⟩,.slice none 0 0]
structure DI (w:World) (g:Nat) (r:Ac) (s:Value) (k:Nat) (S:Nat→Value) (v:Value) (W:World):Prop where
 bl:Below w.heap.size w W
 ri:A6 W g r s
 rz:Blk W (g+1) 34 BQ
 ou:A6 W (g+2) r v
 ow:Own W 34 7 v k (enR r.args S k)
 hi:∀b,v.ownBlock=some b→g+3≤b
 ar:∀j,j<k→Bl (fun b=>g+3≤b∧v.ownBlock≠some b) W (r.args j) (S j)
theorem DI.below {w W W':World} {g:Nat} {r:Ac} {s:Value} {k:Nat} {S:Nat→Value} {v:Value} (h:DI w g r s k S v W) (hb:Below W.heap.size W W'):DI w g r s k S v W':=
 ⟨h.bl.trans (hb.mono h.bl.size),h.ri.below hb,Blk.below h.rz hb h.rz.lt,h.ou.below hb,h.ow.new hb,h.hi,fun j hj=>(h.ar j hj).new_ hb⟩
theorem DI.one {w W:World} {g:Nat} {r:Ac} {s:Value} {k:Nat} {S:Nat→Value} {v:Value} (h:DI w g r s k S v W):∀u∈enR r.args S k,u.oneCell'=true:=FT k fun j hj=>(h.ar j hj).one
theorem DI.put {w W W6 W':World} {g:Nat} {r:Ac} {s:Value} {k:Nat} {S:Nat→Value} {v v' sk:Value} (h:DI w g r s k S v W) (hgw:w.heap.size≤g) (h6:Below W.heap.size W W6) (hk:Bl (fun b=>W.heap.size≤b) W6 (r.args k) sk)
 (hO:Own W' 34 7 v' (k+1) (enR r.args S k++AM (r.args k) sk)) (o:Obj) (hg:(W6.alloc o).grownBy W' v.ownBlock) (hat:v'.ownBlock=v.ownBlock∨v'.ownBlock=some (W6.alloc o).heap.size):
 DI w g r s (k+1) (fun j=>if j<k then S j else sk) v' (W'.setCell ⟨g+2,6,none⟩ v')∧A6 W' (g+2) r v:=by
 have h7:DI w g r s k S v (W6.alloc o):=h.below (Aa h6 (Ag _ _))
 have hz:(W6.alloc o).heap.size=W6.heap.size+1:=by simp
 have hlv:∀b,v.ownBlock=some b→b<W.heap.size:=h.ow.lt
 have hWz:=h6.size
 have hkb:∀b,v.ownBlock≠some b→b<(W6.alloc o).heap.size→W'.heap[b]?=(W6.alloc o).heap[b]?:=fun b h1 h2=>hg.block b h2 (fun e=>h1 e.symm)
 have hne:∀b,b<g+3→v.ownBlock≠some b:=fun b h1 h2=>by have:=h.hi b h2;omega
 have hne':∀b,b<g+3→v'.ownBlock≠some b:=fun b h1 h2=>by
  rcases hat with e|e
  ·exact hne b h1 (e▸h2)
  ·rw[e]at h2
   injection h2 with h2
   have:g+2<(W6.alloc o).heap.size:=h7.ou.lt
   omega
 have hou:A6 W' (g+2) r v:=Blk.keep h7.ou (hkb (g+2) (hne (g+2) (by omega)) h7.ou.lt)
 have hset:∀b,b≠g+2→(W'.setCell ⟨g+2,6,none⟩ v').heap[b]?=W'.heap[b]?:=fun b h1=>Below.heap_setCell W' ⟨g+2,6,none⟩ v' b h1
 refine⟨⟨?_,?_,?_,?_,?_,?_,?_⟩,hou⟩
 ·have hb7:Below w.heap.size (W6.alloc o) W':=⟨hg.os,hg.tape,hg.output,hg.size,fun b h1=>hkb b (hne b (by omega)) (Nat.lt_of_lt_of_le h1 h7.bl.size)⟩
  exact(h7.bl.trans hb7).setCell (p:=⟨g+2,6,none⟩) (by show _≤g+2;omega) _
 ·exact Blk.keep (Blk.keep h7.ri (hkb g (hne g (by omega)) h7.ri.lt)) (hset g (by omega))
 ·exact Blk.keep (Blk.keep h7.rz (hkb (g+1) (hne (g+1) (by omega)) h7.rz.lt)) (hset (g+1) (by omega))
 ·exact Blk.set_ hou 6 v'
 ·have hfar:=hO.far (p:=⟨g+2,6,none⟩) (hne' (g+2) (by omega)) v'
  have:enR r.args (fun j=>if j<k then S j else sk) (k+1)=enR r.args S k++AM (r.args k) sk:=by
   show enR r.args _ k++AM (r.args k) (if k<k then S k else sk)=_
   rw[if_neg (by omega),MO k (fun j hj=>if_pos hj)]
  rw[this]
  exact hfar
 ·intro b hb
  rcases hat with e|e
  ·exact h.hi b (e▸hb)
  ·rw[e]at hb
   injection hb with hb
   have:g+2<(W6.alloc o).heap.size:=h7.ou.lt
   omega
 ·intro j hj
  have hsz:(W6.alloc o).heap.size≤(W'.setCell ⟨g+2,6,none⟩ v').heap.size:=by simpa using hg.size
  by_cases hjk:j<k
  ·rw[if_pos hjk]
   refine(h.ar j hjk).keep (by omega) fun b ⟨h1,h2⟩ h3=>⟨?_,h1,fun e=> ?_⟩
   ·rw[hset b (by omega),hkb b h2 (by omega),(Below.trans h6 ((Ag W6 o).mono hWz)).block b h3]
   ·rcases hat with e2|e2
    ·exact h2 (e2▸e)
    ·rw[e2]at e
     injection e with e
     omega
  ·obtain rfl:j=k:=by omega
   rw[if_neg hjk]
   have hgW:g+2<W.heap.size:=h.ou.lt
   refine hk.keep (by omega) fun b h1 h3=> ?_
   have hvb:v.ownBlock≠some b:=fun e=>by have:=hlv b e;omega
   refine⟨?_,by omega,fun e=> ?_⟩
   ·rw[hset b (by omega),hkb b hvb (by omega)]
    exact Below.heap_alloc W6 o b h3
   ·rcases hat with e2|e2
    ·exact hvb (e2▸e)
    ·rw[e2]at e
     injection e with e
     omega
theorem DI.done {w W:World} {g:Nat} {r:Ac} {s:Value} {S:Nat→Value} {v:Value} (h:DI w g r s r.n S v W) (hgw:w.heap.size≤g) (hd:Fd r.kind r.dep) (hn:r.n≤9223372036854775807):BF w.heap.size W r v:=
 ⟨hd,hn,S,h.ow,fun b hb=>by have:=h.hi b hb;omega,fun j hj=>(h.ar j hj).keep (Nat.le_refl _) fun b h1 _=>⟨rfl,by have:=h1.1;omega,h1.2⟩⟩
section
variable {P:Program} (w:World)
theorem BI {ops:Array Oper} {o:Oper} {a:Act} {K:Act→World→Prop} {Q:Exit→Act→World→Prop} {E:Prop} (hgd:o.guard=none) (s sx:Operand) (t tx:TypeId)
 (ho:o.op= .call {callee:= .builtin .append,args:= #[s,sx],argTypes:= #[t,tx]})
 (e:TypeId) (i:TypeInfo) (z:Value) (size bytes:Nat) (ht:P.underlying t=some (.slice e)) (hi:P.info? e=some i) (hz:i.zero=some z)
 (hsize:i.size=size) (hby:i.bytes=bytes) (hzs:z.cells.size=size) (hsz:0<size)
 (v:Value) (n:Nat) (xs:List Value) (hv:a.eval s=v) (hown:Own w e size v n xs) (h0:∀u∈xs,u.oneCell'=true)
 (x:Value) (m:Nat) (news:List Value) (hx:a.eval sx=x) (hs:Src P size tx x m news w)
 (h63:n+m≤maxLen) (hbytes:(n+m)*bytes≤140737488355328)
 (h:∀ao' cap' w',n+m≤cap'→cap'≤maxLen→Own w' e size (.slice ao' (n+m) cap') (n+m) (xs++news)→w.grownBy w' v.ownBlock→((Value.slice ao' (n+m) cap').ownBlock=v.ownBlock∨(Value.slice ao' (n+m) cap').ownBlock=some w.heap.size)→(∀k,(Value.slice ao' (n+m) cap').ownBlock=some k→k<w'.heap.size)→K (a.put o.dst (.slice ao' (n+m) cap')) w'):
 if Region.wanted o (yielded ops a.tmps)=true then Oper.wp P o a w K Q else E:=by
 have hw:Region.wanted o (yielded ops a.tmps)=true:=by simp[Region.wanted,hgd]
 rw[if_pos hw]
 exact DK w s sx t tx ho e i z size bytes ht hi hz hsize hby hzs hsz v n xs hv hown h0 x m news hx hs h63 hbytes h
end
theorem MZ (r:Ac):1≤r.count:=by rw[BX];omega
theorem NI (r:Ac):r.n<r.count:=by
 have h:∀n,n≤Bz (fun j=>(r.args j).count) n:=fun n=>by
  induction n with
  |zero=>exact Nat.le_refl _
  |succ n ih=>
   have:=MZ (r.args n)
   simp only[Bz]
   omega
 have:=h r.n
 rw[BX]
 omega
theorem BF.form {n0:Nat} {w:World} {r:Ac} {s:Value} (h:BF n0 w r s):∃a c,s= .slice a r.n c:=by
 obtain⟨_,_,_,hO,_⟩:=h
 obtain⟨ao,c,e,_⟩:=hO.form
 exact⟨ao,c,e⟩
abbrev AV (r:Ac) (s:Value):Array Value:= #[.int .u8 r.kind,.string r.dep.name,.int .u8 r.dep.op,.int .i64 r.dep.ep,.string r.dep.ver,.string r.dep.rel,s]
theorem C4 (w:World) (r:Ac) (s:Value) (hs:s.oneCell'=true):Src Tryz.prog 7 26 (.slice (some ⟨w.heap.size,0,none⟩) 1 1) 1 (AM r s) (w.alloc (.cells (AV r s) 34)):=
 (Own.made w 34 7 (AV r s) 1 rfl (by simp[maxLen])).src Tryz.underlying26 (fun u hu=>FT (f:=fun _=>r) (S:=fun _=>s) 1 (fun _ _=>hs) u (by
   show u∈ []++AM r s
   exact hu))
theorem Ow (w:World) (r:Ac) (s:Value) (S:Nat→Value):DI w w.heap.size r s 0 S nV (((w.alloc (.cells (AV r s) 34)).alloc (.cells BQ 34)).alloc (.cells (AV r nV) 34)):=by
 refine⟨Aa (Ag _ _) (Aa (Ag _ _) (Ag _ _)),((A6.new w r s).below (Ag _ _)).below (Ag _ _),?_,?_,Own.nil _ _ _,fun b h=>by simp[Value.ownBlock]at h,fun j hj=>absurd hj (Nat.not_lt_zero j)⟩
 ·have h:=Blk.new (w.alloc (.cells (AV r s) 34)) 34 BQ
  rw[World.size_alloc]at h
  exact h.alloc _
 ·have h:=A6.new ((w.alloc (.cells (AV r s) 34)).alloc (.cells BQ 34)) r nV
  rwa [World.size_alloc,World.size_alloc]at h
def Di (W:World) (b:Nat) (r:Ac) (v:Value):World:=
 ((((((W.setCell ⟨b,0,none⟩ (.int .u8 r.kind)).setCell ⟨b,1,none⟩ (.string r.dep.name)).setCell ⟨b,2,none⟩ (.int .u8 r.dep.op)).setCell ⟨b,3,none⟩ (.int .i64 r.dep.ep)).setCell ⟨b,4,none⟩ (.string r.dep.ver)).setCell ⟨b,5,none⟩ (.string r.dep.rel)).setCell ⟨b,6,none⟩ v
theorem Gy (W:World) (b:Nat) (r:Ac) (v:Value) (k:Nat) (hk:k≠b):(Di W b r v).heap[k]?=W.heap[k]?:=by
 unfold Di
 have h:=fun(W:World) (i:Nat) (u:Value)=>Below.heap_setCell W ⟨b,i,none⟩ u k hk
 rw[h,h,h,h,h,h,h]
theorem H3 (W:World) (b:Nat) (r:Ac) (v:Value):(Di W b r v).heap.size=W.heap.size:=by
 unfold Di
 simp
theorem KG {w W:World} {b:Nat} (r:Ac) (v:Value) (h:Below w.heap.size w W) (hb:w.heap.size≤b):Below w.heap.size w (Di W b r v):=
 ((((((h.setCell (p:=⟨b,0,none⟩) hb _).setCell (p:=⟨b,1,none⟩) hb _).setCell (p:=⟨b,2,none⟩) hb _).setCell (p:=⟨b,3,none⟩) hb _).setCell (p:=⟨b,4,none⟩) hb _).setCell (p:=⟨b,5,none⟩) hb _).setCell (p:=⟨b,6,none⟩) hb _
theorem EM {W:World} {b:Nat} (h:Blk W b 34 BQ) (r:Ac) (v:Value):Blk (Di W b r v) b 34 (AV r v):=
 ((((((h.set_ 0 (.int .u8 r.kind)).set_ 1 (.string r.dep.name)).set_ 2 (.int .u8 r.dep.op)).set_ 3 (.int .i64 r.dep.ep)).set_ 4 (.string r.dep.ver)).set_ 5 (.string r.dep.rel)).set_ 6 v
theorem DI.fin {w W:World} {g:Nat} {r:Ac} {s:Value} {S:Nat→Value} {v:Value} (h:DI w g r s r.n S v W) (hgw:w.heap.size≤g) (hd:Fd r.kind r.dep) (hn:r.n≤9223372036854775807):
 Blk (Di W (g+1) r v) (g+1) 34 (AV r v)∧BF w.heap.size (Di W (g+1) r v) r v∧Below w.heap.size w (Di W (g+1) r v):=by
 refine⟨EM h.rz r v,⟨hd,hn,S,?_,fun b hb=>by have:=h.hi b hb;omega,fun j hj=>(h.ar j hj).keep (by rw[H3];exact Nat.le_refl _) fun b h1 _=>⟨?_,by have:=h1.1;omega,h1.2⟩⟩,KG r v h.bl (by omega)⟩
 ·exact h.ow.keep fun k hk=>Gy _ _ _ _ k (by have:=h.hi k hk;omega)
 ·exact Gy _ _ _ _ b (by have:=h1.1;omega)
abbrev ldR (n:Nat):Op:=Op.load 26 (.tmp n)
theorem Ox (W:World) (r:Ac):∀(s:Value) (w:World),Au W r s→Below W.heap.size W w→r.count≤1048576→
 Calls Tryz.prog 152 #[r.val s] w fun e w'=>∃s',e= .returned (r.val s')∧BF w.heap.size w' r s'∧Below w.heap.size w w':=by
 have step:∀(r:Ac) (s:Value) (w:World),Au W r s→Below W.heap.size W w→r.count≤1048576→
  (∀j,j<r.n→∀(s:Value) (w:World),Au W (r.args j) s→Below W.heap.size W w→(r.args j).count≤1048576→Calls Tryz.prog 152 #[(r.args j).val s] w fun e w'=>∃s',e= .returned ((r.args j).val s')∧BF w.heap.size w' (r.args j) s'∧Below w.heap.size w w')→
  Calls Tryz.prog 152 #[r.val s] w fun e w'=>∃s',e= .returned (r.val s')∧BF w.heap.size w' r s'∧Below w.heap.size w w':=by
  intro r s w hs hB hc ih
  obtain⟨a,c,rfl⟩:=hs.form
  obtain⟨S,hA,hS⟩:=hs.elems2
  obtain⟨g,hg⟩:∃g,g=w.heap.size:=⟨_,rfl⟩
  have hn600:=NI r
  have HFit:=Hd (Au.node_n hs)
  have HE:=Hd (show∀w',Below W.heap.size W w'→∀j,j<r.n→∃b o,a=some ⟨b,o,none⟩∧AH w' b (o+j*7) (r.args j) (S j)from fun w' h j hj=>by
   obtain⟨b,o,h1,h2⟩:=hA j hj
   exact⟨b,o,h1,h2.below h⟩)
  have HI:=Hd (show∀j,j<r.n→∀w',Below W.heap.size W w'→Calls Tryz.prog 152 #[(r.args j).val (S j)] w' fun e w''=>∃s',e= .returned ((r.args j).val s')∧BF w'.heap.size w'' (r.args j) s'∧Below w'.heap.size w' w'' from fun j hj w' h=>ih j hj _ w' (hS j hj) h (by have:=Dp hj;omega))
  have HSf:=Hd (show∀j,j<r.n→∃a' c',S j= .slice a' (r.args j).n c' from fun j hj=>(hS j hj).form)
  have HBW:=Hd hB
  have HG:=Hd hg
  clear hA hS hs ih hB
  unfold Ac.val Be
  go_enter Tryz.func152,Tryz.ntmps152
  go_upto_region 2 with fail
  obtain⟨w3,hw3⟩:∃w3,w3=((w.alloc (.cells (AV r (.slice a r.n c)) 34)).alloc (.cells BQ 34)).alloc (.cells (AV r nV) 34):=⟨_,rfl⟩
  have HC3:=Hd (show DI w g r (.slice a r.n c) 0 (fun _=> .slice none 0 0) nV w3 from by rw[hw3,hg];exact Ow _ _ _ _)
  rw[←hw3,←hg]
  clear hw3 hg
  have d6:w3.cell? ⟨g,6,none⟩=some (.slice a r.n c):=HC3.out.ri.cell 6
  obtain⟨iR,hiR,hz0,hz1,hz2⟩:=Gt
  go_wp2_with fail
  clear d6
  go_loopw [14] (fun i wr=>∃(k:Nat) (Sx:Nat→Value) (ao:Option Addr) (cp:Nat),k≤r.n∧i= .int .i64 k∧Hid (DI w g r (.slice a r.n c) k Sx (.slice ao k cp) wr)) (fun i wr=>r.n-(intOf i).toNat)
  case atStart=>exact⟨0,_,none,0,by omega,rfl,HC3⟩
  case round=>
   obtain⟨k,Sx,ao,cp,hk,rfl,HCk⟩:=hrel
   by_cases hlt:k<r.n
   ·have hki:(k:Int)<(r.n:Int):=by omega
    have HB2:=Hd (HBW.out.trans (HCk.out.bl.mono HBW.out.size))
    obtain⟨b,o,ha,y0,y1,y2,y3,y4,y5,y6,y7⟩:=HE.out wr HB2.out k hlt
    subst ha
    obtain⟨xa,xc,hx⟩:=HSf.out k hlt
    obtain⟨gb,hgb⟩:∃gb,gb=wr.heap.size:=⟨_,rfl⟩
    obtain⟨w5,hw5⟩:∃w5,w5=wr.alloc (AT (r.args k) (.slice xa (r.args k).n xc)):=⟨_,rfl⟩
    have hb5:Below wr.heap.size wr w5:=by rw[hw5];exact Ag _ _
    have HC5:=Hd (HCk.out.below hb5)
    have hr5:A6 w5 gb (r.args k) (.slice xa (r.args k).n xc):=by rw[hw5,hgb];exact A6.new _ _ _
    have HM:=Hd (fun w' (h:Below w5.heap.size w5 w')=>HI.out k hlt w' (HB2.out.trans ((Aa hb5 h).mono HB2.out.size)))
    simp only[hx]at HM y6
    have HSS:=Hd (show∀w',Below w5.heap.size w5 w'→(w'.cell? ⟨gb,0,none⟩=some (.int .u8 (r.args k).kind)∧w'.cell? ⟨gb,1,none⟩=some (.string (r.args k).dep.name)∧w'.cell? ⟨gb,2,none⟩=some (.int .u8 (r.args k).dep.op)∧w'.cell? ⟨gb,3,none⟩=some (.int .i64 (r.args k).dep.ep)∧w'.cell? ⟨gb,4,none⟩=some (.string (r.args k).dep.ver)∧w'.cell? ⟨gb,5,none⟩=some (.string (r.args k).dep.rel)∧w'.cell? ⟨gb,6,none⟩=some (.slice xa (r.args k).n xc))from fun w' h=>by
     have h2:=hr5.below h
     exact⟨h2.cell 0,h2.cell 1,h2.cell 2,h2.cell 3,h2.cell 4,h2.cell 5,h2.cell 6⟩)
    have HKp:=Hd (show∀(w6 w10:World) (o:Obj) (v':Value),Below w5.heap.size w5 w6→(w6.alloc o).grownBy w10 (Value.slice ao k cp).ownBlock→(w10.cell? ⟨gb,0,none⟩=some (.int .u8 (r.args k).kind)∧w10.cell? ⟨gb,1,none⟩=some (.string (r.args k).dep.name)∧w10.cell? ⟨gb,2,none⟩=some (.int .u8 (r.args k).dep.op)∧w10.cell? ⟨gb,3,none⟩=some (.int .i64 (r.args k).dep.ep)∧w10.cell? ⟨gb,4,none⟩=some (.string (r.args k).dep.ver)∧w10.cell? ⟨gb,5,none⟩=some (.string (r.args k).dep.rel)∧w10.cell? ⟨gb,6,none⟩=some (.slice xa (r.args k).n xc))∧((w10.setCell ⟨g+2,6,none⟩ v').cell? ⟨gb,0,none⟩=some (.int .u8 (r.args k).kind)∧(w10.setCell ⟨g+2,6,none⟩ v').cell? ⟨gb,1,none⟩=some (.string (r.args k).dep.name)∧(w10.setCell ⟨g+2,6,none⟩ v').cell? ⟨gb,2,none⟩=some (.int .u8 (r.args k).dep.op)∧(w10.setCell ⟨g+2,6,none⟩ v').cell? ⟨gb,3,none⟩=some (.int .i64 (r.args k).dep.ep)∧(w10.setCell ⟨g+2,6,none⟩ v').cell? ⟨gb,4,none⟩=some (.string (r.args k).dep.ver)∧(w10.setCell ⟨g+2,6,none⟩ v').cell? ⟨gb,5,none⟩=some (.string (r.args k).dep.rel)∧(w10.setCell ⟨g+2,6,none⟩ v').cell? ⟨gb,6,none⟩=some (.slice xa (r.args k).n xc))from fun w6 w10 o v' h6 hg6=>by
     have h7:=(hr5.below h6).below (Ag w6 o)
     have hne:(Value.slice ao k cp).ownBlock≠some gb:=fun e=>by have:=HCk.out.ow.lt gb e;omega
     have h8:A6 w10 gb (r.args k) (.slice xa (r.args k).n xc):=Blk.grown h7 hg6 (fun e=>hne e.symm)
     have hg2:g+2<wr.heap.size:=HCk.out.ou.lt
     have h9:A6 (w10.setCell ⟨g+2,6,none⟩ v') gb (r.args k) (.slice xa (r.args k).n xc):=Blk.far h8 (by show gb≠g+2;omega) v'
     exact⟨⟨h8.cell 0,h8.cell 1,h8.cell 2,h8.cell 3,h8.cell 4,h8.cell 5,h8.cell 6⟩,h9.cell 0,h9.cell 1,h9.cell 2,h9.cell 3,h9.cell 4,h9.cell 5,h9.cell 6⟩)
    have HOu:=Hd (show∀w',Below w5.heap.size w5 w'→w'.cell? ⟨g+2,6,none⟩=some (.slice ao k cp)from fun w' h=>(HC5.out.ou.below h).cell 6)
    have HOw:=Hd (show∀w',Below w5.heap.size w5 w'→Own w' 34 7 (.slice ao k cp) k (enR r.args Sx k)from fun w' h=>HC5.out.ow.new h)
    have HOne:=Hd HC5.out.one
    have HDr:=Hd (show Below w5.heap.size w5 w5.drew from(Below.refl _ w5).drew)
    have q5:=HOu.out _ (Below.refl _ w5)
    have HWg:=Hd (show w.heap.size≤g by rw[HG.out];exact Nat.le_refl _)
    go_upto_region 5 with fail
    rw[←hw5,←hgb]
    clear hw5 hgb hb5 hr5 y0 y1 y2 y3 y4 y5 y6 y7
    rw[show Op.load 26 (Operand.tmp 18)=ldR 18 from rfl]
    go_region_held3 (fun w'=>w'.cell? ⟨gb,0,none⟩=some (.int .u8 (r.args k).kind)∧w'.cell? ⟨gb,1,none⟩=some (.string (r.args k).dep.name)∧w'.cell? ⟨gb,2,none⟩=some (.int .u8 (r.args k).dep.op)∧w'.cell? ⟨gb,3,none⟩=some (.int .i64 (r.args k).dep.ep)∧w'.cell? ⟨gb,4,none⟩=some (.string (r.args k).dep.ver)∧w'.cell? ⟨gb,5,none⟩=some (.string (r.args k).dep.rel)∧w'.cell? ⟨gb,6,none⟩=some (.slice xa (r.args k).n xc)) (first|exact HSS.out _ HDr.out|exact HSS.out _ (Aa HDr.out (Ag _ _))|exact HS10.out.1|exact HS10.out.2)
     ((first
       |(go_at_call 152;(with_reducible refine(HM.out _ HDr.out).mono ?_);rintro e w6 ⟨sk,rfl,hNk,HBc⟩;have HDr:=Hd (Aa HDr.out HBc);obtain⟨ak,ck,rfl⟩:=hNk.form;have HNk:=Hd (show Bl (fun b=>w5.heap.size≤b) w6 (r.args k) (.slice ak (r.args k).n ck)from hNk.in_);have q6:=HOu.out _ HDr.out;have q7:=HOu.out _ (Aa HDr.out (Ag w6 (.cells (AV (r.args k) (.slice ak (r.args k).n ck)) 34)));clear hNk HBc)
       |(refine BI _ (by rfl) (.tmp 19) (.tmp 22) _ _ (by rfl) 34 iR _ 7 96 Tryz.underlying26 hiR hz0 hz1 hz2 rfl (by omega) (.slice ao k cp) k (enR r.args Sx k) (by rfl) (HOw.out _ (Aa HDr.out (Ag w6 (.cells (AV (r.args k) (.slice ak (r.args k).n ck)) 34)))) HOne.out (.slice (some ⟨w6.heap.size,0,none⟩) 1 1) 1 (AM (r.args k) (.slice ak (r.args k).n ck)) (by rfl) (C4 w6 (r.args k) (.slice ak (r.args k).n ck) rfl) (by simp only[maxLen];omega) (by omega) ?_;intro ao2 cap2 w10 hn2 hm2 hown2 hg2 hat2 hlt2;have HP:=Hd (HC5.out.put HWg.out HDr.out HNk.out hown2 (.cells (AV (r.args k) (.slice ak (r.args k).n ck)) 34) hg2 hat2);have HS10:=Hd (HKp.out w6 w10 _ (.slice ao2 (k+1) cap2) HDr.out hg2);have c10:=HP.out.2.cell 6;have f10:=HP.out.2.frozen 6;have l10:=HP.out.2.lt;clear hown2 hg2 hat2 hlt2 hn2 hm2)))
    all_goals
     go_wp2_with fail
     go_roundw
     case rel=>exact⟨k+1,_,ao2,cap2,by omega,by go_num,Hd HP.out.1⟩
     case measure=>simp[intOf];omega
   ·obtain rfl:k=r.n:=by omega
    have hou:=HCk.out.ou
    have o0:=hou.cell 0
    have o1:=hou.cell 1
    have o2:=hou.cell 2
    have o3:=hou.cell 3
    have o4:=hou.cell 4
    have o5:=hou.cell 5
    have o6:=hou.cell 6
    have ol:g+2<wr.heap.size:=hou.lt
    have hrz:=HCk.out.rz
    have z0:=hrz.cell 0
    have z1:=hrz.cell 1
    have z2:=hrz.cell 2
    have z3:=hrz.cell 3
    have z4:=hrz.cell 4
    have z5:=hrz.cell 5
    have z6:=hrz.cell 6
    have f0:=hrz.frozen 0
    have f1:=hrz.frozen 1
    have f2:=hrz.frozen 2
    have f3:=hrz.frozen 3
    have f4:=hrz.frozen 4
    have f5:=hrz.frozen 5
    have f6:=hrz.frozen 6
    have zl:=hrz.lt
    clear hou hrz
    go_wp2_with fail
    have hn6:r.n≤9223372036854775807:=by omega
    obtain⟨h1,h2,h3⟩:=HCk.out.fin (by rw[HG.out];exact Nat.le_refl _) HFit.out hn6
    exact bodyPost_ret (results_cell_row rfl _ _ (g+1) 34 _ (0,0) _ rfl h1 Tryz.underlying34 rfl (by kernel_rfl)) rfl ⟨_,rfl,h2,h3⟩
 induction r with
 |nil=>exact fun s w h1 h2 h3=>step .nil s w h1 h2 h3 (fun j hj=>absurd hj (Nat.not_lt_zero j))
 |node k d n f ih=>exact fun s w h1 h2 h3=>step (.node k d n f) s w h1 h2 h3 (fun j _=>ih j)
theorem Mh (W:World) (r:Ac):∀(s:Value) (w:World),Au W r s→Below W.heap.size W w→r.count≤1048576→
 Calls Tryz.prog 139 #[r.val s] w fun e w'=>∃s',e= .returned (r.val s')∧BF w.heap.size w' r s'∧Below w.heap.size w w':=by
 have step:∀(r:Ac) (s:Value) (w:World),Au W r s→Below W.heap.size W w→r.count≤1048576→
  (∀j,j<r.n→∀(s:Value) (w:World),Au W (r.args j) s→Below W.heap.size W w→(r.args j).count≤1048576→Calls Tryz.prog 139 #[(r.args j).val s] w fun e w'=>∃s',e= .returned ((r.args j).val s')∧BF w.heap.size w' (r.args j) s'∧Below w.heap.size w w')→
  Calls Tryz.prog 139 #[r.val s] w fun e w'=>∃s',e= .returned (r.val s')∧BF w.heap.size w' r s'∧Below w.heap.size w w':=by
  intro r s w hs hB hc ih
  obtain⟨a,c,rfl⟩:=hs.form
  obtain⟨S,hA,hS⟩:=hs.elems2
  obtain⟨g,hg⟩:∃g,g=w.heap.size:=⟨_,rfl⟩
  have hn600:=NI r
  have HFit:=Hd (Au.node_n hs)
  have HE:=Hd (show∀w',Below W.heap.size W w'→∀j,j<r.n→∃b o,a=some ⟨b,o,none⟩∧b<W.heap.size∧AH w' b (o+j*7) (r.args j) (S j)from fun w' h j hj=>by
   obtain⟨b,o,h1,h2⟩:=hA j hj
   exact⟨b,o,h1,h2.lt,h2.below h⟩)
  have HI:=Hd (show∀j,j<r.n→∀w',Below W.heap.size W w'→Calls Tryz.prog 139 #[(r.args j).val (S j)] w' fun e w''=>∃s',e= .returned ((r.args j).val s')∧BF w'.heap.size w'' (r.args j) s'∧Below w'.heap.size w' w'' from fun j hj w' h=>ih j hj _ w' (hS j hj) h (by have:=Dp hj;omega))
  have HSf:=Hd (show∀j,j<r.n→∃a' c',S j= .slice a' (r.args j).n c' from fun j hj=>(hS j hj).form)
  have HBW:=Hd hB
  have HG:=Hd hg
  clear hA hS hs ih hB
  unfold Ac.val Be
  go_enter Tryz.func139,Tryz.ntmps139
  go_upto_region 2 with fail
  obtain⟨w3,hw3⟩:∃w3,w3=((w.alloc (.cells (AV r (.slice a r.n c)) 34)).alloc (.cells BQ 34)).alloc (.cells (AV r nV) 34):=⟨_,rfl⟩
  have HC3:=Hd (show DI w g r (.slice a r.n c) 0 (fun _=> .slice none 0 0) nV w3 from by rw[hw3,hg];exact Ow _ _ _ _)
  rw[←hw3,←hg]
  clear hw3 hg
  have d6:w3.cell? ⟨g,6,none⟩=some (.slice a r.n c):=HC3.out.ri.cell 6
  obtain⟨iR,hiR,hz0,hz1,hz2⟩:=Gt
  go_wp2_with fail
  clear d6
  go_loopw [4] (fun i wr=>∃(k:Nat) (Sx:Nat→Value) (ao:Option Addr) (cp:Nat),k≤r.n∧i= .int .i64 k∧Hid (DI w g r (.slice a r.n c) k Sx (.slice ao k cp) wr)) (fun i wr=>r.n-(intOf i).toNat)
  case atStart=>exact⟨0,_,none,0,by omega,rfl,HC3⟩
  case round=>
   obtain⟨k,Sx,ao,cp,hk,rfl,HCk⟩:=hrel
   have d6:=HCk.out.ri.cell 6
   have dl:=HCk.out.ri.lt
   by_cases hlt:k<r.n
   ·have hki:(k:Int)<(r.n:Int):=by omega
    have HB2:=Hd (HBW.out.trans (HCk.out.bl.mono HBW.out.size))
    obtain⟨b,o,ha,hbW,hy⟩:=HE.out wr HB2.out k hlt
    subst ha
    obtain⟨xa,xc,hx⟩:=HSf.out k hlt
    have HWg:=Hd (show w.heap.size≤g by rw[HG.out];exact Nat.le_refl _)
    have hbg:b<g:=by have:=HWg.out;have:=HBW.out.size;omega
    have HM:=Hd (fun w' (h:Below wr.heap.size wr w')=>HI.out k hlt w' (HB2.out.trans (h.mono HB2.out.size)))
    rw[hx]at hy
    simp only[hx]at HM
    have HSS:=Hd (show∀w',Below wr.heap.size wr w'→(w'.cell? ⟨g,6,none⟩=some (.slice (some ⟨b,o,none⟩) r.n c)∧w'.cell? ⟨b,o+k*7,none⟩=some (.int .u8 (r.args k).kind)∧w'.cell? ⟨b,o+k*7+1,none⟩=some (.string (r.args k).dep.name)∧w'.cell? ⟨b,o+k*7+2,none⟩=some (.int .u8 (r.args k).dep.op)∧w'.cell? ⟨b,o+k*7+3,none⟩=some (.int .i64 (r.args k).dep.ep)∧w'.cell? ⟨b,o+k*7+4,none⟩=some (.string (r.args k).dep.ver)∧w'.cell? ⟨b,o+k*7+5,none⟩=some (.string (r.args k).dep.rel)∧w'.cell? ⟨b,o+k*7+6,none⟩=some (.slice xa (r.args k).n xc))from fun w' h=>by
     have h2:=hy.below h
     exact⟨(HCk.out.ri.below h).cell 6,h2.c0,h2.c1,h2.c2,h2.c3,h2.c4,h2.c5,h2.c6⟩)
    have HKp:=Hd (show∀(w6 w10:World) (ob:Obj) (v':Value),Below wr.heap.size wr w6→(w6.alloc ob).grownBy w10 (Value.slice ao k cp).ownBlock→(w10.cell? ⟨g,6,none⟩=some (.slice (some ⟨b,o,none⟩) r.n c)∧w10.cell? ⟨b,o+k*7,none⟩=some (.int .u8 (r.args k).kind)∧w10.cell? ⟨b,o+k*7+1,none⟩=some (.string (r.args k).dep.name)∧w10.cell? ⟨b,o+k*7+2,none⟩=some (.int .u8 (r.args k).dep.op)∧w10.cell? ⟨b,o+k*7+3,none⟩=some (.int .i64 (r.args k).dep.ep)∧w10.cell? ⟨b,o+k*7+4,none⟩=some (.string (r.args k).dep.ver)∧w10.cell? ⟨b,o+k*7+5,none⟩=some (.string (r.args k).dep.rel)∧w10.cell? ⟨b,o+k*7+6,none⟩=some (.slice xa (r.args k).n xc))∧((w10.setCell ⟨g+2,6,none⟩ v').cell? ⟨g,6,none⟩=some (.slice (some ⟨b,o,none⟩) r.n c)∧(w10.setCell ⟨g+2,6,none⟩ v').cell? ⟨b,o+k*7,none⟩=some (.int .u8 (r.args k).kind)∧(w10.setCell ⟨g+2,6,none⟩ v').cell? ⟨b,o+k*7+1,none⟩=some (.string (r.args k).dep.name)∧(w10.setCell ⟨g+2,6,none⟩ v').cell? ⟨b,o+k*7+2,none⟩=some (.int .u8 (r.args k).dep.op)∧(w10.setCell ⟨g+2,6,none⟩ v').cell? ⟨b,o+k*7+3,none⟩=some (.int .i64 (r.args k).dep.ep)∧(w10.setCell ⟨g+2,6,none⟩ v').cell? ⟨b,o+k*7+4,none⟩=some (.string (r.args k).dep.ver)∧(w10.setCell ⟨g+2,6,none⟩ v').cell? ⟨b,o+k*7+5,none⟩=some (.string (r.args k).dep.rel)∧(w10.setCell ⟨g+2,6,none⟩ v').cell? ⟨b,o+k*7+6,none⟩=some (.slice xa (r.args k).n xc))from fun w6 w10 ob v' h6 hg6=>by
     have hb7:=Aa h6 (Ag w6 ob)
     have h7:=hy.below hb7
     have h7g:=HCk.out.ri.below hb7
     have hne:∀q,q<g+3→(Value.slice ao k cp).ownBlock≠some q:=fun q hq e=>by have:=HCk.out.hi q e;omega
     have hlb:b<(w6.alloc ob).heap.size:=h7.lt
     have h8:AH w10 b (o+k*7) (r.args k) (.slice xa (r.args k).n xc):=h7.same (hg6.block b hlb (fun e=>hne b (by omega) e.symm)) hg6.size
     have h8g:A6 w10 g r (.slice (some ⟨b,o,none⟩) r.n c):=Blk.grown h7g hg6 (fun e=>hne g (by omega) e.symm)
     have h9:AH (w10.setCell ⟨g+2,6,none⟩ v') b (o+k*7) (r.args k) (.slice xa (r.args k).n xc):=h8.same (Below.heap_setCell w10 ⟨g+2,6,none⟩ v' b (by show b≠g+2;omega)) (by simp)
     have h9g:A6 (w10.setCell ⟨g+2,6,none⟩ v') g r (.slice (some ⟨b,o,none⟩) r.n c):=Blk.far h8g (by show g≠g+2;omega) v'
     exact⟨⟨h8g.cell 6,h8.c0,h8.c1,h8.c2,h8.c3,h8.c4,h8.c5,h8.c6⟩,h9g.cell 6,h9.c0,h9.c1,h9.c2,h9.c3,h9.c4,h9.c5,h9.c6⟩)
    have HOu:=Hd (show∀w',Below wr.heap.size wr w'→w'.cell? ⟨g+2,6,none⟩=some (.slice ao k cp)from fun w' h=>(HCk.out.ou.below h).cell 6)
    have HOw:=Hd (show∀w',Below wr.heap.size wr w'→Own w' 34 7 (.slice ao k cp) k (enR r.args Sx k)from fun w' h=>HCk.out.ow.new h)
    have HOne:=Hd HCk.out.one
    have HDr:=Hd (show Below wr.heap.size wr wr.drew from(Below.refl _ wr).drew)
    have q5:=HOu.out _ (Below.refl _ wr)
    obtain⟨d6,y0,y1,y2,y3,y4,y5,y6⟩:=HSS.out _ (Below.refl _ wr)
    clear hy
    go_upto_region 5 with fail
    clear y0 y1 y2 y3 y4 y5 y6
    rw[show Op.load 26 (Operand.tmp 17)=ldR 17 from rfl]
    go_region_held3 (fun w'=>w'.cell? ⟨g,6,none⟩=some (.slice (some ⟨b,o,none⟩) r.n c)∧w'.cell? ⟨b,o+k*7,none⟩=some (.int .u8 (r.args k).kind)∧w'.cell? ⟨b,o+k*7+1,none⟩=some (.string (r.args k).dep.name)∧w'.cell? ⟨b,o+k*7+2,none⟩=some (.int .u8 (r.args k).dep.op)∧w'.cell? ⟨b,o+k*7+3,none⟩=some (.int .i64 (r.args k).dep.ep)∧w'.cell? ⟨b,o+k*7+4,none⟩=some (.string (r.args k).dep.ver)∧w'.cell? ⟨b,o+k*7+5,none⟩=some (.string (r.args k).dep.rel)∧w'.cell? ⟨b,o+k*7+6,none⟩=some (.slice xa (r.args k).n xc)) (first|exact HSS.out _ HDr.out|exact HSS.out _ (Aa HDr.out (Ag _ _))|exact HS10.out.1|exact HS10.out.2)
     ((first
       |(go_at_call 139;(with_reducible refine(HM.out _ HDr.out).mono ?_);rintro e w6 ⟨sk,rfl,hNk,HBc⟩;have HDr:=Hd (Aa HDr.out HBc);obtain⟨ak,ck,rfl⟩:=hNk.form;have HNk:=Hd (show Bl (fun b=>wr.heap.size≤b) w6 (r.args k) (.slice ak (r.args k).n ck)from hNk.in_);have q6:=HOu.out _ HDr.out;have q7:=HOu.out _ (Aa HDr.out (Ag w6 (.cells (AV (r.args k) (.slice ak (r.args k).n ck)) 34)));clear hNk HBc)
       |(refine BI _ (by rfl) (.tmp 18) (.tmp 25) _ _ (by rfl) 34 iR _ 7 96 Tryz.underlying26 hiR hz0 hz1 hz2 rfl (by omega) (.slice ao k cp) k (enR r.args Sx k) (by rfl) (HOw.out _ (Aa HDr.out (Ag w6 (.cells (AV (r.args k) (.slice ak (r.args k).n ck)) 34)))) HOne.out (.slice (some ⟨w6.heap.size,0,none⟩) 1 1) 1 (AM (r.args k) (.slice ak (r.args k).n ck)) (by rfl) (C4 w6 (r.args k) (.slice ak (r.args k).n ck) rfl) (by simp only[maxLen];omega) (by omega) ?_;intro ao2 cap2 w10 hn2 hm2 hown2 hg2 hat2 hlt2;have HP:=Hd (HCk.out.put HWg.out HDr.out HNk.out hown2 (.cells (AV (r.args k) (.slice ak (r.args k).n ck)) 34) hg2 hat2);have HS10:=Hd (HKp.out w6 w10 _ (.slice ao2 (k+1) cap2) HDr.out hg2);have c10:=HP.out.2.cell 6;have f10:=HP.out.2.frozen 6;have l10:=HP.out.2.lt;clear hown2 hg2 hat2 hlt2 hn2 hm2)))
    all_goals
     go_wp2_with fail
     go_roundw
     case rel=>exact⟨k+1,_,ao2,cap2,by omega,by go_num,Hd HP.out.1⟩
     case measure=>simp[intOf];omega
   ·obtain rfl:k=r.n:=by omega
    have hou:=HCk.out.ou
    have o0:=hou.cell 0
    have o1:=hou.cell 1
    have o2:=hou.cell 2
    have o3:=hou.cell 3
    have o4:=hou.cell 4
    have o5:=hou.cell 5
    have o6:=hou.cell 6
    have ol:g+2<wr.heap.size:=hou.lt
    have hrz:=HCk.out.rz
    have z0:=hrz.cell 0
    have z1:=hrz.cell 1
    have z2:=hrz.cell 2
    have z3:=hrz.cell 3
    have z4:=hrz.cell 4
    have z5:=hrz.cell 5
    have z6:=hrz.cell 6
    have f0:=hrz.frozen 0
    have f1:=hrz.frozen 1
    have f2:=hrz.frozen 2
    have f3:=hrz.frozen 3
    have f4:=hrz.frozen 4
    have f5:=hrz.frozen 5
    have f6:=hrz.frozen 6
    have zl:=hrz.lt
    clear hou hrz
    go_wp2_with fail
    have hn6:r.n≤9223372036854775807:=by omega
    obtain⟨h1,h2,h3⟩:=HCk.out.fin (by rw[HG.out];exact Nat.le_refl _) HFit.out hn6
    exact bodyPost_ret (results_cell_row rfl _ _ (g+1) 34 _ (0,0) _ rfl h1 Tryz.underlying34 rfl (by kernel_rfl)) rfl ⟨_,rfl,h2,h3⟩
 induction r with
 |nil=>exact fun s w h1 h2 h3=>step .nil s w h1 h2 h3 (fun j hj=>absurd hj (Nat.not_lt_zero j))
 |node k d n f ih=>exact fun s w h1 h2 h3=>step (.node k d n f) s w h1 h2 h3 (fun j _=>ih j)
def okE (wh k:Int) (n:Nat) (al:Bool):Bool:=
 if k=2∨k=3∨k=6 then decide (2≤n)else if k=7 then decide (n=2)else if k=4 then(decide (n=2)||decide (n=3)) && (!al && decide (wh=1))else if k=5 then(decide (n=2)||decide (n=3)) && (!al && decide (wh≤2))else false
def B8 (wh:Int):Ac→Bool→Bool
 | .nil,_=>false
 | .node k d n f,al=>if k=1 then decide (n=0) && Ca d else(okE wh k n al && d.none) && CQ (fun j=>B8 wh (f j) (A0 k al)) n
theorem Px (wh:Int) (r:Ac) (al:Bool):B8 wh r al=if r.kind=1 then decide (r.n=0) && Ca r.dep else(okE wh r.kind r.n al && r.dep.none) && CQ (fun j=>B8 wh (r.args j) (A0 r.kind al)) r.n:=by
 cases r with
 |nil=>
  show false=if (0:Int)=1 then _ else(okE wh 0 0 al && _) && _
  rw[if_neg (by omega)]
  rfl
 |node k d n f=>rfl
theorem NK {wh k:Int} {d:Ax} {n:Nat} {al:Bool} (h1:1≤wh) (h3:wh≤3) (hn:n≤24) (hk:k≠1):Cw wh (k,d,n,al)=(okE wh k n al && d.none):=by
 rw[Bool.eq_iff_iff,JC,if_neg hk,Bool.and_eq_true]
 simp only
 unfold okE Fh
 rw[if_neg hk]
 generalize d.none=dn
 by_cases k2:k=2
 ·subst k2;cases dn<;>simp<;>omega
 by_cases k3:k=3
 ·subst k3;cases dn<;>simp<;>omega
 by_cases k4:k=4
 ·subst k4;cases dn<;>cases al<;>simp<;>omega
 by_cases k5:k=5
 ·subst k5;cases dn<;>cases al<;>simp<;>omega
 by_cases k6:k=6
 ·subst k6;cases dn<;>simp<;>omega
 by_cases k7:k=7
 ·subst k7;cases dn<;>simp<;>omega
 simp[k2,k3,k4,k5,k6,k7]
 omega
theorem NL {wh:Int} {d:Ax} {n:Nat} {al:Bool} (h3:wh≤3):Cw wh (1,d,n,al)=(decide (n=0) && Ca d):=by
 rw[Bool.eq_iff_iff,JC,if_pos rfl,Bool.and_eq_true,decide_eq_true_eq]
 show wh≤3∧(al=true→true=true)∧(0:Int)≤(n:Int)∧(n:Int)≤0∧_↔_
 constructor
 ·rintro⟨_,_,_,h,h5⟩
  exact⟨by omega,h5⟩
 ·rintro⟨h,h5⟩
  exact⟨h3,fun _=>rfl,by omega,by omega,h5⟩
theorem Em {wh:Int} (h1:1≤wh) (h3:wh≤3):(r:Ac)→(al:Bool)→r.count≤24→B8 wh r al=(r.parts al).all (Cw wh)
 | .nil,al,_=>by
   show false=(Cw wh (0,EI,0,al) && true)
   rw[Bool.and_true,NK h1 h3 (by omega) (by omega)]
   rfl
 | .node k d n f,al,hc=>by
   have hn:=NI (.node k d n f)
   have ih:∀al',∀j,j<n→B8 wh (f j) al'=((f j).parts al').all (Cw wh):=fun al' j hj=>Em h1 h3 (f j) al' (by have:=Dp (r:= .node k d n f) hj;simp only[Ac.args]at this;omega)
   simp only[Ac.n]at hn
   show(if k=1 then decide (n=0) && Ca d else(okE wh k n al && d.none) && CQ (fun j=>B8 wh (f j) (A0 k al)) n)=(Cw wh (k,d,n,al) && (B3 (fun j=>(f j).parts (A0 k al)) n).all (Cw wh))
   by_cases hk:k=1
   ·subst hk
    rw[if_pos (show(1:Int)=1 from rfl),NL h3]
    by_cases h0:n=0
    ·subst h0
     show _=((_ && Ca d) && true)
     rw[Bool.and_true]
    ·rw[decide_eq_false h0,Bool.false_and,Bool.false_and]
   ·rw[if_neg hk,NK h1 h3 (by omega) hk]
    refine congrArg ((okE wh k n al && d.none) && ·) ?_
    rw[Bool.eq_iff_iff,CP,LV]
    exact⟨fun h j hj=>by rw[←ih _ j hj];exact h j hj,fun h j hj=>by rw[ih _ j hj];exact h j hj⟩
def Nl (r:Ac) (wh:Int):Int:=if wh<1∨3<wh then 1 else if 24<r.count then 40 else if 8<r.depth then 21 else if B8 wh r false=true then 0 else 4
theorem NJ (r:Ac) (wh:Int):Nl r wh=CS r wh:=by
 unfold Nl CS
 by_cases h1:wh<1∨3<wh
 ·rw[if_pos h1,if_pos h1]
 ·rw[if_neg h1,if_neg h1]
  by_cases h2:24<r.count
  ·rw[if_pos h2,if_pos h2]
  ·rw[if_neg h2,if_neg h2,Em (by omega) (by omega) r false (by omega)]
open Go.ChangeShapes Go.WideShapes Go.ChangeAt Go.RowKit
def Ao (n:Nat):List UInt8:=if n<128 then [UInt8.ofNat n]else UInt8.ofNat (n%128+128)::Ao (n/128)
termination_by n
decreasing_by omega
def bc (l:List UInt8):List Value:=l.map fun b=>Value.int .u8 (b.toNat:Int)
theorem OC (l:List UInt8):(bc l).length=l.length:=by simp[bc]
theorem K8 (a b:List UInt8):bc (a++b)=bc a++bc b:=by simp[bc]
theorem IU (l:List UInt8):∀u∈bc l,u.oneCell'=true:=by
 intro u hu
 obtain⟨b,_,rfl⟩:=List.mem_map.1 hu
 rfl
theorem OD (l:List UInt8) (j:Nat) (h:j<l.length):(bc l)[j]?=some (.int .u8 (l[j].toNat:Int)):=by simp[bc,h]
theorem CH (n:Nat) (h:n<128):Ao n= [UInt8.ofNat n]:=by rw[Ao,if_pos h]
theorem Gk (n:Nat) (h:128≤n):Ao n=UInt8.ofNat (n%128+128)::Ao (n/128):=by rw[Ao,if_neg (by omega)]
theorem Jr (n:Nat):1≤(Ao n).length:=by rw[Ao];split<;>simp
theorem IB (k:Nat):∀n:Nat,n<128^(k+1)→(Ao n).length≤k+1:=by
 induction k with
 |zero=>intro n h;rw[CH n (by simpa using h)];simp
 |succ k ih=>
  intro n h
  by_cases hs:n<128
  ·rw[CH n hs];simp
  ·rw[Gk n (by omega)]
   have:=ih (n/128) (by rw[Nat.div_lt_iff_lt_mul (by omega)];rw[Nat.pow_succ]at h;exact h)
   simp only[List.length_cons]
   omega
theorem Gl (n:Nat) (h:n<9223372036854775808):(Ao n).length≤9:=IB 8 n (by omega)
theorem Ke:(Tryz.prog.info? 5).map (fun i=>(i.zero,i.size,i.bytes))=some (some (.int .u8 0),1,1):=by kernel_rfl
theorem QR:∀k:Nat,k<256→k|||128=k%128+128:=by decide+kernel
theorem PU (m:Nat):bits BinOp.or IntKind.u8 ((m:Int)%256) 128=((UInt8.ofNat (m%128+128)).toNat:Int):=by
 have h:((m:Int)%256)=((m%256:Nat):Int):=by omega
 rw[h,show(128:Int)=((128:Nat):Int)from rfl,u8_or_nat (m%256) 128 (by omega) (by omega),QR _ (by omega)]
 simp
 omega
theorem K7 (m:Nat) (h:m<128):(m:Int)=((UInt8.ofNat m).toNat:Int):=by
 simp
 omega
set_option maxRecDepth 100000 in
theorem Gj (n:Nat) (w:World) (hn:n≤9223372036854775807):Calls Tryz.prog 156 #[.int .i64 n] w fun e w'=>∃v,e= .returned v∧Own w' 5 1 v (Ao n).length (bc (Ao n))∧Below w.heap.size w w'∧(∀k,v.ownBlock=some k→w.heap.size≤k∧k<w'.heap.size):=by
 obtain⟨i5,hi,hz0,hz1,hz2⟩:=info_parts Ke
 go_enter Tryz.func156,Tryz.ntmps156
 go_wp2
 go_loopw [0,3] (fun x v wr=>∃(m:Nat) (acc:List UInt8),x= .int .i64 m∧m≤n∧Own wr 5 1 v acc.length (bc acc)∧acc++Ao m=Ao n∧Below w.heap.size w wr∧(∀k,v.ownBlock=some k→w.heap.size≤k∧k<wr.heap.size)) (fun x _ _=>(intOf x).toNat)
 case atStart=>exact⟨n,[],rfl,Nat.le_refl _,Own.nil _ _ _,rfl,Below.refl _ _,fun k hk=>by simp[Value.ownBlock]at hk⟩
 case round=>
  obtain⟨m,acc,rfl,hm,hown,hacc,hb,hv⟩:=hrel
  have hlen:acc.length+1≤9:=by
   have h9:=Gl n (by omega)
   rw[←hacc,List.length_append]at h9
   have:=Jr m
   omega
  have HA:=Hd hacc
  clear hacc
  by_cases hlt:128≤m
  ·go_wp2_with (at_builtin;refine DB _ rfl (.tmp 6) (.tmp 10) _ _ rfl 5 i5 _ 1 1 Tryz.underlying74 hi hz0 hz1 hz2 rfl (by omega) u3 _ _ rfl (hown.alloc _) (IU _) _ 1 [_] rfl (FP wr Tryz.underlying74 5 _ rfl) (by simp only[maxLen];omega) (by omega) ?_;intro v1 w1 hown1 hg1 hat1 hlt1)
   go_roundw
   case rel=>
    refine⟨m/128,acc++ [UInt8.ofNat (m%128+128)],by go_num,by omega,?_,?_,?_,?_⟩
    ·rw[PU]at hown1
     rw[K8,List.length_append]
     exact hown1
    ·rw[←HA.out,Gk m hlt]
     simp
    ·exact(hb.alloc hb.size _).grown hg1 (by have:=hb.size;simp;omega) (fun k hk=>(hv k hk).1)
    ·exact Ij hv hat1 (by have:=hb.size;simp;omega) hlt1
   case measure=>simp[intOf];omega
  ·go_wp2_with (at_builtin;refine DB _ rfl (.tmp 14) (.tmp 17) _ _ rfl 5 i5 _ 1 1 Tryz.underlying74 hi hz0 hz1 hz2 rfl (by omega) u3 _ _ rfl (hown.alloc _) (IU _) _ 1 [_] rfl (FP wr Tryz.underlying74 5 _ rfl) (by simp only[maxLen];omega) (by omega) ?_;intro v1 w1 hown1 hg1 hat1 hlt1)
   go_ret
   rw[K7 m (by omega)]at hown1
   refine⟨v1,rfl,?_,?_,?_⟩
   ·rw[←HA.out,CH m (by omega),K8,List.length_append]
    exact hown1
   ·exact(hb.alloc hb.size _).grown hg1 (by have:=hb.size;simp;omega) (fun k hk=>(hv k hk).1)
   ·exact Ij hv hat1 (by have:=hb.size;simp;omega) hlt1
abbrev G3:=Value×List UInt8
def B4 (ps:List G3) (k:Nat):List UInt8:=(ps.take k).flatMap (·.2)
theorem Ff (ps:List G3) (k:Nat) (h:k<ps.length):B4 ps (k+1)=B4 ps k++ps[k].2:=by
 unfold B4
 rw[List.take_succ_eq_append_getElem h,List.flatMap_append]
 simp
theorem Ih (ps:List G3) (k m:Nat) (h:k≤m):(B4 ps k).length≤(B4 ps m).length:=by
 unfold B4
 have:ps.take k=(ps.take m).take k:=by rw[List.take_take,Nat.min_eq_left h]
 rw[this]
 conv=>rhs;rw[←List.take_append_drop k (ps.take m),List.flatMap_append]
 simp
theorem E7 {w:World} {bL:Nat} {ps:List G3} {Pb:Nat→Prop} (hbL:Blk w bL 74 (ps.map Prod.fst).toArray) (hps:∀p∈ps,Rd w Pb p.1 p.2.length (bc p.2)) (k:Nat) (h:k<ps.length):
 ∃ao cap,ps[k].1= .slice ao ps[k].2.length cap∧w.cell? ⟨bL,k,none⟩=some (.slice ao ps[k].2.length cap):=by
 obtain⟨_,ao,cap,hv,_⟩:=hps ps[k] (List.getElem_mem _)
 refine⟨ao,cap,hv,?_⟩
 rw[hbL.cell,←hv]
 simp[h]
theorem Qp (w:World) (g bL:Nat) (ps:List G3) (bs:List UInt8) (v:Value) (hW:Blk w g 108 #[v]) (hO:Own w 5 1 v bs.length (bc bs)) (hbL:Blk w bL 74 (ps.map Prod.fst).toArray)
 (Pb:Nat→Prop) (hps:∀p∈ps,Rd w Pb p.1 p.2.length (bc p.2)) (hlen:bs.length≤4194304) (hn:ps.length≤2) (hsm:∀p∈ps,p.2.length≤140737488351232) (hno:4194304<bs.length+(B4 ps ps.length).length):
 Calls Tryz.prog 155 #[.pointer (some ⟨g,0,none⟩),.slice (some ⟨bL,0,none⟩) ps.length ps.length] w fun e w'=>e= .returned (.int .i64 40)∧w=w':=by
 obtain⟨ao,cap,rfl,hnc,hcm,hform⟩:=hO.form
 have hc:=hW.cell 0
 simp at hc
 go_enter Tryz.func155,Tryz.ntmps155
 go_wp2_with fail
 go_loop [5,17] (fun x i=>∃k:Nat,k≤ps.length∧i= .int .i64 k∧x= .int .i64 ((bs.length+(B4 ps k).length:Nat):Int)∧bs.length+(B4 ps k).length≤4194304) (fun _ i=>ps.length-(intOf i).toNat)
 case atStart=>exact⟨0,by omega,rfl,by simp[B4],by simpa [B4]using hlen⟩
 case round=>
  obtain⟨k,hk,rfl,rfl,hs⟩:=hrel
  by_cases hlt:k<ps.length
  ·obtain⟨ao1,cap1,hv1,hc1⟩:=E7 hbL hps k hlt
   have hsm1:=hsm ps[k] (List.getElem_mem _)
   have hsucc:=Ff ps k hlt
   have hl1:(B4 ps (k+1)).length=(B4 ps k).length+ps[k].2.length:=by rw[hsucc,List.length_append]
   have HL:=Hd hl1
   clear hsucc hl1 hv1
   generalize ps[k].2.length=m at*
   generalize (B4 ps k).length=q at*
   by_cases hfit:m≤4194304-(bs.length+q)
   ·go_wp2
    go_round
    case rel=>exact⟨k+1,by omega,by go_num,by rw[HL.out];go_num,by rw[HL.out];omega⟩
    case measure=>simp[intOf];omega
   ·go_wp2
    go_ret
    exact⟨rfl,rfl⟩
  ·obtain rfl:k=ps.length:=by omega
   omega
def WF (g:Nat) (v:Value) (k:Nat):Prop:=k=g∨v.ownBlock=some k
theorem Qo (w:World) (H g bL:Nat) (ps:List G3) (bs:List UInt8) (v:Value) (hW:Blk w g 108 #[v]) (hO:Own w 5 1 v bs.length (bc bs)) (hbL:Blk w bL 74 (ps.map Prod.fst).toArray)
 (hgH:g<H) (hvH:∀k,v.ownBlock=some k→k<H) (hps:∀p∈ps,Rd w (fun k=>H≤k∧k<w.heap.size) p.1 p.2.length (bc p.2)) (_hH:H≤w.heap.size) (hlen:bs.length≤4194304) (hn:ps.length≤2) (hyes:bs.length+(B4 ps ps.length).length≤4194304):
 Calls Tryz.prog 155 #[.pointer (some ⟨g,0,none⟩),.slice (some ⟨bL,0,none⟩) ps.length ps.length] w fun e w'=>e= .returned (.int .i64 0)∧∃v',Blk w' g 108 #[v']∧
  Own w' 5 1 v' (bs++B4 ps ps.length).length (bc (bs++B4 ps ps.length))∧Ae (WF g v) w w'∧∀k,v'.ownBlock=some k→v.ownBlock=some k∨w.heap.size≤k:=by
 obtain⟨i5,hi,hz0,hz1,hz2⟩:=info_parts Ke
 obtain⟨ao,cap,hv,hnc,hcm,hform⟩:=hO.form
 have hc:=hW.cell 0
 simp[hv]at hc
 have hbne:bL≠g:=hbL.ne_ hW (by decide)
 have hvb:v.ownBlock≠some bL:=hO.ne_blk hbL (by decide)
 have hvg:v.ownBlock≠some g:=hO.ne_blk hW (by decide)
 have hbw:=hbL.lt
 have HV:=Hd hv
 have HB:=Hd hvb
 have HG:=Hd hvg
 clear hv hvb hvg
 go_enter Tryz.func155,Tryz.ntmps155
 go_wp2_with fail
 go_loop [5,17] (fun x i=>∃k:Nat,k≤ps.length∧i= .int .i64 k∧x= .int .i64 ((bs.length+(B4 ps k).length:Nat):Int)) (fun _ i=>ps.length-(intOf i).toNat)
 case atStart=>exact⟨0,by omega,rfl,by simp[B4]⟩
 case round=>
  obtain⟨k,hk,rfl,rfl⟩:=hrel
  by_cases hlt:k<ps.length
  ·obtain⟨ao1,cap1,hv1,hc1⟩:=E7 hbL hps k hlt
   have hsucc:=Ff ps k hlt
   have hl1:(B4 ps (k+1)).length=(B4 ps k).length+ps[k].2.length:=by rw[hsucc,List.length_append]
   have hmo:=Ih ps (k+1) ps.length (by omega)
   have HL:=Hd hl1
   have hfit:ps[k].2.length≤4194304-(bs.length+(B4 ps k).length):=by omega
   have hq:bs.length+(B4 ps k).length≤4194304:=by omega
   clear hsucc hl1 hv1
   generalize ps[k].2.length=m at*
   generalize (B4 ps k).length=q at*
   go_wp2
   go_round
   case rel=>exact⟨k+1,by omega,by go_num,by rw[HL.out];go_num⟩
   case measure=>simp[intOf];omega
  ·obtain rfl:k=ps.length:=by omega
   go_wp2_with fail
   go_loopw [33] (fun i wr=>∃(k:Nat) (u:Value) (cur:List UInt8),k≤ps.length∧i= .int .i64 k∧Blk wr g 108 #[u]∧Own wr 5 1 u cur.length (bc cur)∧cur=bs++B4 ps k∧Ae (WF g v) w wr∧∀k,u.ownBlock=some k→v.ownBlock=some k∨w.heap.size≤k) (fun i _=>ps.length-(intOf i).toNat)
   case atStart=>exact⟨0,v,bs,by omega,rfl,hW,hO,by simp[B4],Ae.refl _ _,fun k hk=> .inl hk⟩
   case round=>
    obtain⟨k,u,cur,hk,rfl,hW2,hO2,hcur,hT,hu⟩:=hrel
    by_cases hlt:k<ps.length
    ·have hbL2:Blk wr bL 74 (ps.map Prod.fst).toArray:=hbL.touch hT (by rintro(h|h);exact hbne h;exact HB.out h)
     have hps2:∀p∈ps,Rd wr (fun k=>H≤k∧k<w.heap.size) p.1 p.2.length (bc p.2):=fun p hp=>(hps p hp).touch hT (by
      rintro q ⟨hq1,hq2⟩ (h|h)
      ·omega
      ·have:=hvH q h;omega)
     obtain⟨ao1,cap1,hv1,hc1⟩:=E7 hbL2 hps2 k hlt
     have hS:=(hps2 ps[k] (List.getElem_mem _)).src (P:=Tryz.prog) Tryz.underlying74 (IU _)
     rw[hv1]at hS
     have hsucc:=Ff ps k hlt
     have hmo:=Ih ps (k+1) ps.length (by omega)
     have hl2:cur.length+ps[k].2.length≤4194304:=by rw[hcur,List.length_append];rw[hsucc,List.length_append]at hmo;omega
     have hcu:=hW2.cell 0
     have hfu:=hW2.frozen 0
     have hug:u.ownBlock≠some g:=hO2.ne_blk hW2 (by decide)
     obtain⟨au,cu,rfl,_,_,_⟩:=hO2.form
     simp at hcu
     have HC:Hid (cur++ps[k].2=bs++B4 ps (k+1)):=by rw[hsucc,hcur,List.append_assoc];rfl
     have HT:=Hd hT
     have HU:=Hd hug
     have HX:=Hd hu
     clear hsucc hv1 hT hbL2 hps2 hcur hug hmo hu
     generalize ps[k].2=pk at*
     go_wp2_with (at_builtin;refine AC _ rfl (.tmp 41) (.tmp 42) _ _ rfl 5 i5 _ 1 1 Tryz.underlying74 hi hz0 hz1 hz2 rfl (by omega) (.slice au cur.length cu) _ _ rfl hO2 (IU _) _ _ _ rfl hS (by simp only[maxLen];omega) (by omega) ?_;intro ao2 cap2 w1 hn1 hm1 hown1 hg1 hat1 hlt1;have hWn:=hW2.grown hg1 (Ne.symm HU.out);have hcn:=hWn.cell 0;simp at hcn;have hfn:=hWn.frozen 0)
     go_roundw
     case rel=>
      refine⟨k+1,_,cur++pk,by omega,by go_num,hWn.set_ 0 _,?_,HC.out,?_,?_⟩
      ·rw[List.length_append,K8]
       exact hown1.far (p:=⟨g,0,none⟩) (hown1.ne_blk hWn (by decide)) _
      ·refine(HT.out.trans (Ae.of_grown (F:=fun j=>(Value.slice au cur.length cu).ownBlock=some j) hg1 (fun j hj=>hj)) fun x hx hj=> ?_).setCell (p:=⟨g,0,none⟩) (fun _=> .inl rfl) _
       rcases HX.out x hj with h|h
       ·exact .inr h
       ·omega
      ·intro j hj
       rcases hat1 with h|h
       ·exact HX.out j (h▸hj)
       ·rw[h]at hj
        injection hj with hj
        have:=HT.out.size
        exact .inr (by omega)
     case measure=>simp[intOf];omega
    ·obtain rfl:k=ps.length:=by omega
     go_wp2_with fail
     go_ret
     subst hcur
     exact⟨rfl,u,hW2,hO2,hT,hu⟩
structure IsW (w:World) (g:Nat) (v:Value) (bs:List UInt8):Prop where
 blk:Blk w g 108 #[v]
 own:Own w 5 1 v bs.length (bc bs)
 le:bs.length≤4194304
structure CD (g:Nat) (w:World) (v:Value) (w':World) (v':Value):Prop where
 touch:Ae (WF g v) w w'
 at_:∀k,v'.ownBlock=some k→v.ownBlock=some k∨w.heap.size≤k
theorem CD.refl (g:Nat) (w:World) (v:Value):CD g w v w v:=⟨Ae.refl _ _,fun _ h=> .inl h⟩
theorem CD.of_below {g:Nat} {w w':World} {v:Value} (h:Below w.heap.size w w'):CD g w v w' v:=⟨Ae.of_below h _,fun _ h=> .inl h⟩
theorem CD.trans {g:Nat} {a b c:World} {u v x:Value} (h:CD g a u b v) (k:CD g b v c x):CD g a u c x:=
 ⟨h.touch.trans k.touch fun j hj hf=>by
   rcases hf with hf|hf
   ·exact .inl hf
   ·rcases h.at_ j hf with h1|h1
    ·exact .inr h1
    ·omega,fun j hj=>by
   rcases k.at_ j hj with h1|h1
   ·exact h.at_ j h1
   ·have:=h.touch.size
    exact .inr (by omega)⟩
theorem IsW.below {w w':World} {g:Nat} {v:Value} {bs:List UInt8} (h:IsW w g v bs) (hb:Below w.heap.size w w'):IsW w' g v bs:=
 ⟨h.blk.below hb h.blk.lt,h.own.new hb,h.le⟩
theorem IsW.touch {w w':World} {g:Nat} {v:Value} {bs:List UInt8} {F:Nat→Prop} (h:IsW w g v bs) (hb:Ae F w w') (h1:¬F g) (h2:∀k,v.ownBlock=some k→¬F k):IsW w' g v bs:=
 ⟨h.blk.touch hb h1,h.own.touch hb h2,h.le⟩
def Iw (bs s:List UInt8):Int:=if bs.length+s.length≤4194304 then 0 else 40
def Jj (bs s:List UInt8):List UInt8:=if bs.length+s.length≤4194304 then bs++s else bs
theorem Lt (w:World) (H g bL:Nat) (ps:List G3) (bs:List UInt8) (v:Value) (hW:IsW w g v bs) (hbL:Blk w bL 74 (ps.map Prod.fst).toArray)
 (hgH:g<H) (hvH:∀k,v.ownBlock=some k→k<H) (hps:∀p∈ps,Rd w (fun k=>H≤k∧k<w.heap.size) p.1 p.2.length (bc p.2)) (hH:H≤w.heap.size) (hn:ps.length≤2) (hsm:∀p∈ps,p.2.length≤140737488351232) (n:Nat) (hpl:ps.length=n):
 Calls Tryz.prog 155 #[.pointer (some ⟨g,0,none⟩),.slice (some ⟨bL,0,none⟩) n n] w fun e w'=>e= .returned (.int .i64 (Iw bs (B4 ps ps.length)))∧∃v',IsW w' g v' (Jj bs (B4 ps ps.length))∧CD g w v w' v':=by
 subst hpl
 unfold Iw Jj
 by_cases h:bs.length+(B4 ps ps.length).length≤4194304
 ·rw[if_pos h,if_pos h]
  refine(Qo w H g bL ps bs v hW.blk hW.own hbL hgH hvH hps hH hW.le hn h).mono ?_
  rintro e w' ⟨rfl,v',h1,h2,h3,h4⟩
  exact⟨rfl,v',⟨h1,h2,by rw[List.length_append];exact h⟩,h3,h4⟩
 ·rw[if_neg h,if_neg h]
  refine(Qp w g bL ps bs v hW.blk hW.own hbL _ hps hW.le hn hsm (by omega)).mono ?_
  rintro e w' ⟨rfl,rfl⟩
  exact⟨rfl,v,hW,CD.refl _ _ _⟩
theorem Pa (g:Nat) (v:Value) (bs:List UInt8) (n:Nat) (w:World) (hn:n≤9223372036854775807) (hW:IsW w g v bs):
 Calls Tryz.prog 111 #[.pointer (some ⟨g,0,none⟩),.int .i64 n] w fun e w'=>e= .returned (.int .i64 (Iw bs (Ao n)))∧∃v',IsW w' g v' (Jj bs (Ao n))∧CD g w v w' v':=by
 have hbg:=hW.blk.lt
 have hvl:=hW.own.lt
 go_enter Tryz.func111,Tryz.ntmps111
 go_wp2_with fail
 refine(Gj n _ hn).mono ?_
 rintro e w1 ⟨u,rfl,hO1,hb1,hu1⟩
 have hR:=hO1.rd (Pb:=fun k=>w.heap.size≤k∧k<w1.heap.size) hu1
 have hS:=hb1.size
 obtain⟨ao,cap,rfl,_,_,_⟩:=hO1.form
 have hput:=Lt (w1.alloc (.cells #[.slice ao (Ao n).length cap] 74)) w.heap.size g w1.heap.size [(.slice ao (Ao n).length cap,Ao n)] bs v ((hW.below hb1).below ((Below.refl _ _).alloc (Nat.le_refl _) _)) (Blk.new _ _ _)
  hbg hvl (fun p hp=>by
   simp only[List.mem_singleton]at hp
   subst hp
   exact(hR.touch (Ae.alloc (Ae.refl (fun _=>False) _) _) (fun _ _ f=>f.elim)).mono (fun k hk _=>⟨hk.1,by simp;omega⟩)) (by simp;omega) (by simp) (fun p hp=>by
   simp only[List.mem_singleton]at hp
   subst hp
   have:=Gl n (by omega)
   simp only
   omega) 1 rfl
 have hcat:B4 [((Value.slice ao (Ao n).length cap,Ao n):G3)] [((Value.slice ao (Ao n).length cap,Ao n):G3)].length=Ao n:=by simp[B4]
 rw[hcat]at hput
 have HP:=Hd hput
 clear hput hcat
 go_wp2_with fail
 refine HP.out.mono ?_
 rintro e w2 ⟨rfl,v',h1,h2⟩
 go_wp2_with fail
 go_ret
 exact⟨rfl,v',h1,((CD.of_below hb1).trans (CD.of_below ((Below.refl _ _).alloc (Nat.le_refl _) _))).trans h2⟩
theorem Nn (w:World) (s:ByteArray) (cap:Nat) (fr:Nat×Nat) (hc:s.size≤cap) (hm:cap≤maxLen) (Pb:Nat→Prop) (hp:Pb w.heap.size):
 Rd (w.alloc (.cells (bytesRow s cap) 5 fr)) Pb (.slice (some ⟨w.heap.size,0,none⟩) s.size cap) s.size (bc s.data.toList):=by
 refine⟨by rw[OC];simp,_,cap,rfl,hc,hm,fun _=>⟨w.heap.size,0,rfl,hp,by simp,fun j hj=> ?_⟩⟩
 have hj':j<s.data.size:=hj
 rw[cell_of_row _ _ (0+j) _ _ _ (heap_alloc_new w _),Nat.zero_add,bytesRow_at s cap j hj',OD _ j (by simpa using hj')]
 simp
theorem LY (g:Nat) (v:Value) (bs:List UInt8) (s:ByteArray) (w:World) (hs:s.size≤140737488351232) (hW:IsW w g v bs):
 Calls Tryz.prog 112 #[.pointer (some ⟨g,0,none⟩),.string s] w fun e w'=>e= .returned (.int .i64 (Iw bs (Ao s.size++s.data.toList)))∧∃v',IsW w' g v' (Jj bs (Ao s.size++s.data.toList))∧CD g w v w' v':=by
 have hbg:=hW.blk.lt
 have hvl:=hW.own.lt
 have hcv:=fun w=>run_bytes_of_string (P:=Tryz.prog) w 9 74 5 s Tryz.underlying9 Tryz.underlying74 Tryz.underlying5
 go_enter Tryz.func112,Tryz.ntmps112
 go_wp2_with fail
 refine(Gj s.size _ (by omega)).mono ?_
 rintro e w1 ⟨u,rfl,hO1,hb1,hu1⟩
 have hR:=hO1.rd (Pb:=fun k=>w.heap.size≤k∧k<w1.heap.size) hu1
 have hS:=hb1.size
 obtain⟨ao,cap,rfl,_,_,_⟩:=hO1.form
 have hgc:=grownCap_ge w1 s.size 0 5
 have hgm:=grownCap_le_maxLen w1 s.size 0 5 (by simp only[maxLen];omega)
 have hbel:Below w1.heap.size w1 (((w1.alloc (Obj.cells (bytesRow s (grownCap w1 s.size 0 5)) 5 ((bytesRow s (grownCap w1 s.size 0 5)).size,(bytesRow s (grownCap w1 s.size 0 5)).size+1))).alloc
  (Obj.cells #[Value.slice ao (Ao s.size).length cap,Value.slice (some {block:=w1.heap.size,off:=0}) s.size (grownCap w1 s.size 0 5)] 74)).drew):=
  (((Below.refl _ _).alloc (Nat.le_refl _) _).alloc (by simp) _).drew
 have hput:=Lt (((w1.alloc (Obj.cells (bytesRow s (grownCap w1 s.size 0 5)) 5 ((bytesRow s (grownCap w1 s.size 0 5)).size,(bytesRow s (grownCap w1 s.size 0 5)).size+1))).alloc
  (Obj.cells #[Value.slice ao (Ao s.size).length cap,Value.slice (some {block:=w1.heap.size,off:=0}) s.size (grownCap w1 s.size 0 5)] 74)).drew)
  w.heap.size g (w1.heap.size+1) [(.slice ao (Ao s.size).length cap,Ao s.size),(.slice (some {block:=w1.heap.size,off:=0}) s.size (grownCap w1 s.size 0 5),s.data.toList)] bs v ((hW.below hb1).below hbel)
  (by have:=Blk.new (w1.alloc (Obj.cells (bytesRow s (grownCap w1 s.size 0 5)) 5 ((bytesRow s (grownCap w1 s.size 0 5)).size,(bytesRow s (grownCap w1 s.size 0 5)).size+1))) 74 #[Value.slice ao (Ao s.size).length cap,Value.slice (some {block:=w1.heap.size,off:=0}) s.size (grownCap w1 s.size 0 5)]
      simp only[World.size_alloc]at this
      exact this.drew)
  hbg hvl (fun p hp=>by
   simp only[List.mem_cons,List.not_mem_nil,or_false]at hp
   rcases hp with rfl|rfl
   ·exact(hR.touch (Ae.of_below hbel (fun _=>False)) (fun _ _ f=>f.elim)).mono (fun k hk _=>⟨hk.1,by simp;omega⟩)
   ·have h1:=Nn w1 s (grownCap w1 s.size 0 5) ((bytesRow s (grownCap w1 s.size 0 5)).size,(bytesRow s (grownCap w1 s.size 0 5)).size+1) hgc hgm (fun k=>k=w1.heap.size) rfl
    have h2:=(h1.touch ((Ae.alloc (Ae.refl (fun _=>False) _) (Obj.cells #[Value.slice ao (Ao s.size).length cap,Value.slice (some {block:=w1.heap.size,off:=0}) s.size (grownCap w1 s.size 0 5)] 74)).drew) (fun _ _ f=>f.elim)).mono (Qb:=fun k=>w.heap.size≤k∧k<(((w1.alloc (Obj.cells (bytesRow s (grownCap w1 s.size 0 5)) 5 ((bytesRow s (grownCap w1 s.size 0 5)).size,(bytesRow s (grownCap w1 s.size 0 5)).size+1))).alloc (Obj.cells #[Value.slice ao (Ao s.size).length cap,Value.slice (some {block:=w1.heap.size,off:=0}) s.size (grownCap w1 s.size 0 5)] 74)).drew).heap.size) (fun k hk _=>⟨by omega,by simp;omega⟩)
    have hl:s.data.toList.length=s.size:=by simp
    rw[hl]
    exact h2) (by simp;omega) (by simp) (fun p hp=>by
   simp only[List.mem_cons,List.not_mem_nil,or_false]at hp
   rcases hp with rfl|rfl
   ·have:=Gl s.size (by omega)
    simp only
    omega
   ·have hl:s.data.toList.length=s.size:=by simp
    simp only
    omega) 2 rfl
 have hcat:∀p q:G3,B4 [p,q] [p,q].length=p.2++q.2:=by intro p q;simp[B4]
 rw[hcat]at hput
 have HP:=Hd hput
 have HB:=Hd hbel
 clear hput hcat hbel
 go_wp2_with fail
 refine HP.out.mono ?_
 rintro e w2 ⟨rfl,v',h1,h2⟩
 go_wp2_with fail
 go_ret
 exact⟨rfl,v',h1,((CD.of_below hb1).trans (CD.of_below HB.out)).trans h2⟩
theorem Oy {w:World} {v:Value} {l:List UInt8} (h:Own w 5 1 v l.length (bc l)):(convert 74 9 v).run Tryz.prog w= .ok (.string ⟨l.toArray⟩) w:=by
 obtain⟨ao,cap,rfl,_,_,hf⟩:=h.form
 rcases Nat.eq_zero_or_pos l.length with h0|h0
 ·have hl:l= []:=List.eq_nil_of_length_eq_zero h0
  subst hl
  cases ao with
  |none=>exact run_convert_bytes_nil w 74 5 Tryz.underlying74 Tryz.underlying5 _ _ 9 Tryz.underlying9
  |some a=>exact run_convert_bytes_back w 74 9 5 a cap [] Tryz.underlying74 Tryz.underlying5 Tryz.underlying9 (fun j hj=>by simp at hj)
 ·obtain⟨g,off,rfl,hc,_,_⟩:=hf h0
  refine run_convert_bytes_back w 74 9 5 ⟨g,off,none⟩ cap l Tryz.underlying74 Tryz.underlying5 Tryz.underlying9 (fun j hj=> ?_)
  have ha:(⟨g,off,none⟩:Addr).add j=⟨g,off+j,none⟩:=by unfold Addr.add;split<;>simp_all
  rw[ha,hc j (by rw[OC];exact hj),OD l j hj]
theorem M3 (g:Nat) (v:Value) (bs:List UInt8) (w:World) (hW:IsW w g v bs):Calls Tryz.prog 32 #[.pointer (some ⟨g,0,none⟩)] w fun e w'=>e= .returned (.string ⟨bs.toArray⟩)∧w=w':=by
 have hcv:=Oy hW.own
 have hc:=hW.blk.cell 0
 simp at hc
 obtain⟨ao,cap,rfl,_,_,_⟩:=hW.own.form
 go_enter Tryz.func32,Tryz.ntmps32
 go_wp2_with fail
 go_ret
 exact⟨rfl,rfl⟩
theorem Pe (w:World):Calls Tryz.prog 27 #[] w fun e w'=>e= .returned (.pointer (some ⟨w.heap.size,0,none⟩))∧IsW w' w.heap.size nV []∧Below w.heap.size w w':=by
 go_enter Tryz.func27,Tryz.ntmps27
 go_wp2_with fail
 go_ret
 exact⟨rfl,⟨Blk.new _ _ _,Own.nil _ _ _,by simp⟩,(Below.refl _ _).alloc (Nat.le_refl _) _⟩
theorem J3 (w:World) (u:Int) (h0:0≤u) (h1:u<256):(convert 74 9 (.slice (some ⟨w.heap.size,0,none⟩) 1 1)).run Tryz.prog (w.alloc (.cells #[.int .u8 u] 5))= .ok (.string ⟨#[UInt8.ofNat u.toNat]⟩) (w.alloc (.cells #[.int .u8 u] 5)):=by
 have h:=run_convert_bytes_back (P:=Tryz.prog) (w.alloc (.cells #[.int .u8 u] 5)) 74 9 5 ⟨w.heap.size,0,none⟩ 1 [UInt8.ofNat u.toNat] Tryz.underlying74 Tryz.underlying5 Tryz.underlying9 (fun j hj=>by
  have hj0:j=0:=by simpa using hj
  subst hj0
  have hb:=Blk.new w 5 #[.int .u8 u]
  have ha:(⟨w.heap.size,0,none⟩:Addr).add 0=⟨w.heap.size,0,none⟩:=rfl
  rw[ha,hb.cell]
  simp
  omega)
 exact h
theorem PS (W:World) (g:Nat) (u:Int) (h0:0≤u) (h1:u<256) (hc:W.cell? ⟨g,0,none⟩=some (.int .u8 u)):(convert 74 9 (.slice (some ⟨g,0,none⟩) 1 1)).run Tryz.prog W= .ok (.string ⟨#[UInt8.ofNat u.toNat]⟩) W:=by
 refine run_convert_bytes_back (P:=Tryz.prog) W 74 9 5 ⟨g,0,none⟩ 1 [UInt8.ofNat u.toNat] Tryz.underlying74 Tryz.underlying5 Tryz.underlying9 (fun j hj=> ?_)
 have hj0:j=0:=by simpa using hj
 subst hj0
 have ha:(⟨g,0,none⟩:Addr).add 0=⟨g,0,none⟩:=rfl
 rw[ha,hc]
 simp
 omega
theorem O9 (n:Nat) (h:n≤9223372036854775807):IntKind.u8.wrap (IntKind.i64.wrap ((n:Int).tmod 128+128))=((n%128+128:Nat):Int):=by
 have h1:(n:Int).tmod 128=((n%128:Nat):Int):=by
  rw[Int.tmod_eq_emod_of_nonneg (by omega)]
  omega
 rw[h1,IntKind.wrap_i64,IntKind.wrap_u8']
 omega
theorem O8 (n:Nat) (h:¬n<128):((⟨#[UInt8.ofNat (n%128)+128]⟩:ByteArray)++⟨(Ao (n/128)).toArray⟩)=⟨(Ao n).toArray⟩:=by
 rw[Gk n (by omega)]
 have:UInt8.ofNat (n%128)+128=UInt8.ofNat (n%128+128):=by simp
 rw[this]
 exact ByteArray.mk_append_mk [UInt8.ofNat (n%128+128)] (Ao (n/128))
set_option maxRecDepth 100000 in
theorem Ga (k:Nat):∀(n:Nat) (w:World),n≤k→n≤9223372036854775807→Calls Tryz.prog 88 #[.int .i64 n] w fun e w'=>e= .returned (.string ⟨(Ao n).toArray⟩)∧Below w.heap.size w w':=by
 induction k with
 |zero=>
  intro n w hk _
  obtain rfl:n=0:=by omega
  have hc:=J3 w 0 (by omega) (by omega)
  go_enter Tryz.func88,Tryz.ntmps88
  go_wp2_with fail
  go_ret
  refine⟨by rw[CH 0 (by omega)];rfl,(Below.refl _ _).alloc (Nat.le_refl _) _⟩
 |succ k ih=>
  intro n w hk hb
  by_cases hn:n<128
  ·have hc:=J3 w (n:Int) (by omega) (by omega)
   go_enter Tryz.func88,Tryz.ntmps88
   go_wp2_with fail
   go_ret
   refine⟨by rw[CH n hn];rfl,(Below.refl _ _).alloc (Nat.le_refl _) _⟩
  ·have hi:=fun w=>ih (n/128) w (by omega) (by omega)
   have HI:=Hd hi
   clear hi ih
   have hr:=O9 n hb
   have hc:∀(W:World) (g:Nat),W.cell? ⟨g,0,none⟩=some (.int .u8 (IntKind.u8.wrap (IntKind.i64.wrap ((n:Int).tmod 128+128))))→(convert 74 9 (.slice (some ⟨g,0,none⟩) 1 1)).run Tryz.prog W= .ok (.string ⟨#[UInt8.ofNat (n%128+128)]⟩) W:=by
    intro W g h
    have:=PS W g _ (by rw[hr];omega) (by rw[hr];omega) h
    rw[hr]at this
    exact this
   have hq:IntKind.i64.wrap ((n:Int)/128)=((n/128:Nat):Int):=by rw[IntKind.wrap_i64];omega
   have hsz:=Gl (n/128) (by omega)
   clear hr
   go_enter Tryz.func88,Tryz.ntmps88
   go_wp2_with fail
   go_region_with ((go_at_call 88;refine(HI.out _).mono ?_;rintro e w1 ⟨rfl,hb1⟩;have hk:=fun g (h:g<_)=>hb1.cell (p:=⟨g,0,none⟩) h))
   all_goals
    go_wp2_with fail
    go_ret
   all_goals
    refine⟨congrArg (fun s=>Ending.returned (.string s)) (O8 n hn),?_⟩
   ·exact D8 ((Below.refl _ _).alloc (Nat.le_refl _) _).drew hb1
   ·exact D8 ((Below.refl _ _).alloc (Nat.le_refl _) _).drew hb1
   ·exact D8 (Below.refl _ _).drew (D8 hb1 ((Below.refl _ _).alloc (Nat.le_refl _) _))
theorem Jf (s:ByteArray) (w:World) (hs:s.size≤140737488351232):Calls Tryz.prog 171 #[.string s] w fun e w'=>e= .returned (.string ⟨(Ao s.size++s.data.toList).toArray⟩)∧Below w.heap.size w w':=by
 have hsz:=Gl s.size (by omega)
 have hr:=Ga s.size s.size w (Nat.le_refl _) (by omega)
 have HR:=Hd hr
 clear hr
 go_enter Tryz.func171,Tryz.ntmps171
 go_wp2_with fail
 refine HR.out.mono ?_
 rintro e w1 ⟨rfl,hb1⟩
 go_wp2_with fail
 go_ret
 refine⟨congrArg (fun s=>Ending.returned (.string s)) ?_,hb1⟩
 have:s=⟨s.data.toList.toArray⟩:=by simp
 show(⟨(Ao s.size).toArray⟩:ByteArray)++s=_
 conv=>lhs;rw[this]
 exact ByteArray.mk_append_mk _ _
end Go.Proofs.YtdpjjnbelgaagaaGreatDoor
