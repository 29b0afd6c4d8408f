/- codec.copied. Conditions: as each theorem names them. -/
import Derived.Test.YtdpjjnbelgaagaaGreatDoorG25
import Derived.Test.YtdpjjnbelgaagaaGreatDoorG21
import Derived.Test.YtdpjjnbelgaagaaGreatDoorG19
import Derived.Test.YtdpjjnbelgaagaaGreatDoorG05
import Derived.Test.YtdpjjnbelgaagaaGreatDoorG10
namespace Go.Proofs.YtdpjjnbelgaagaaGreatDoor
set_option maxHeartbeats 32000000
open Go.ChangeShapes Go.WideShapes Go.ChangeAt Go.RowKit Go.Deep
set_option maxRecDepth 100000
theorem FI (l:List Aq) (v:Value) (w:World) (h:LIn AN Ai w l v) (hsm:∀p∈l,p.small) (hn:l.length≤1048576):Calls Tryz.prog 55 #[v] w (GV AN w l):=by
 obtain⟨a,c,rfl⟩:=h.form
 have HL:=Hd h
 have HS:=Hd hsm
 obtain⟨iP,hiP,hz0,hz1,hz2⟩:=NO
 clear h hsm
 go_enter Tryz.func55,Tryz.ntmps55
 go_wp2_with fail
 go_loopw [3,8] (fun v i wr=>∃k:Nat,k≤l.length∧i= .int .i64 k∧Hid (CL AN 29 w l k v wr)) (fun _ i _=>l.length-(intOf i).toNat)
 case atStart=>exact⟨0,by omega,rfl,Hd (CL.start _ _ _ _)⟩
 case round=>
  obtain⟨k,hk,rfl,HQ⟩:=hrel
  by_cases hlt:k<l.length
  ·have hki:(k:Int)<(l.length:Int):=by omega
   obtain⟨b,o,r,ha,_,hcs0,hh0⟩:=HL.out.at_ k hlt
   obtain⟨x,hx⟩:∃x,x=l[k]'hlt:=⟨_,rfl⟩
   rw[←hx]at hcs0 hh0
   subst ha
   have hin:Ah Ai w x r:=hh0
   have hfm:=hin.forms
   have hd:AX wr b (o+k*15) (CC x r):=hcs0.below HQ.out.bl
   have HX:=Hd hx
   have HM:=Hd (fun W' (hb:Below wr.heap.size wr W')=>MF x r W' (hin.keep (Nat.le_trans HQ.out.bl.size hb.size) fun b _ hlt=>⟨(Aa HQ.out.bl hb).block b hlt,trivial⟩) (HS.out x (hx▸List.getElem_mem hlt)))
   obtain⟨⟨q1,q2,q3,e1⟩,⟨q4,q5,q6,e2⟩,⟨q7,q8,q9,e3⟩,⟨q10,q11,q12,e4⟩,⟨q13,q14,q15,e5⟩,⟨q16,q17,q18,e6⟩,⟨q19,q20,q21,e7⟩,⟨q22,q23,q24,e8⟩,⟨q25,q26,q27,e9⟩⟩:=hfm
   rcases r with ⟨r0,r1,r2,r3,r4,r5,r6,r7,r8⟩
   dsimp only at e1 e2 e3 e4 e5 e6 e7 e8 e9
   subst e1 e2 e3 e4 e5 e6 e7 e8 e9
   have x0:=hd.2 0 (show 0<15 by omega)
   have x1:=hd.2 1 (show 1<15 by omega)
   have x2:=hd.2 2 (show 2<15 by omega)
   have x3:=hd.2 3 (show 3<15 by omega)
   have x4:=hd.2 4 (show 4<15 by omega)
   have x5:=hd.2 5 (show 5<15 by omega)
   have x6:=hd.2 6 (show 6<15 by omega)
   have x7:=hd.2 7 (show 7<15 by omega)
   have x8:=hd.2 8 (show 8<15 by omega)
   have x9:=hd.2 9 (show 9<15 by omega)
   have x10:=hd.2 10 (show 10<15 by omega)
   have x11:=hd.2 11 (show 11<15 by omega)
   have x12:=hd.2 12 (show 12<15 by omega)
   have x13:=hd.2 13 (show 13<15 by omega)
   have x14:=hd.2 14 (show 14<15 by omega)
   dsimp only[CC]at x0 x1 x2 x3 x4 x5 x6 x7 x8 x9 x10 x11 x12 x13 x14
   simp only[Nat.add_zero,List.getElem?_cons_zero,List.getElem?_cons_succ]at x0 x1 x2 x3 x4 x5 x6 x7 x8 x9 x10 x11 x12 x13 x14
   have xl:b<wr.heap.size:=hd.1
   obtain⟨xs,hown,hone⟩:=HQ.out.ac.own
   obtain⟨ao,cp,hve⟩:=Cl hown
   have hll:(l.take k).length=k:=by rw[List.length_take];omega
   rw[hll]at hve
   subst hve
   rw[hll]at hown
   have HO4:=Hd hown
   have HN4:=Hd hone
   have HLL:=Hd hll
   have HLt:=Hd hlt
   clear hcs0 hh0 hin hd hx hown hone hll
   go_wp2_with (first
    |(go_at_call 104;(with_reducible refine(HM.out _ (Ag wr _)).mono ?_);rintro e w2 ⟨⟨r',rfl,hn2⟩,hb2⟩;have HB2:=Hd (Aa (Ag wr _) hb2);have hfm2:=hn2.forms;have HP2:=Hd (show Ah (Am wr.heap.size) w2 x r' from hn2.keep (Nat.le_refl _) fun b ⟨j1,j2⟩ _=>⟨rfl,by rw[World.size_alloc]at j1;omega,j2⟩);clear hn2 hb2;obtain⟨⟨y1,y2,y3,e1⟩,⟨y4,y5,y6,e2⟩,⟨y7,y8,y9,e3⟩,⟨y10,y11,y12,e4⟩,⟨y13,y14,y15,e5⟩,⟨y16,y17,y18,e6⟩,⟨y19,y20,y21,e7⟩,⟨y22,y23,y24,e8⟩,⟨y25,y26,y27,e9⟩⟩:=hfm2;rcases r' with ⟨s0,s1,s2,s3,s4,s5,s6,s7,s8⟩;dsimp only at e1 e2 e3 e4 e5 e6 e7 e8 e9;subst e1 e2 e3 e4 e5 e6 e7 e8 e9)
    |(at_builtin;(refine AC _ rfl (.tmp 12) (.tmp 15) _ _ rfl 29 iP _ 15 296 Tryz.underlying36 hiP hz0 hz1 hz2 rfl (by omega) (.slice ao k cp) k xs rfl ((HO4.out.keep fun b hb=>HB2.out.block b (HO4.out.lt b hb)).alloc _) HN4.out (.slice (some ⟨w2.heap.size,0,none⟩) 1 1) 1 (CC x ⟨.slice y1 y2 y3,.slice y4 y5 y6,.slice y7 y8 y9,.slice y10 y11 y12,.slice y13 y14 y15,.slice y16 y17 y18,.slice y19 y20 y21,.slice y22 y23 y24,.slice y25 y26 y27⟩) rfl (FO w2 x ⟨.slice y1 y2 y3,.slice y4 y5 y6,.slice y7 y8 y9,.slice y10 y11 y12,.slice y13 y14 y15,.slice y16 y17 y18,.slice y19 y20 y21,.slice y22 y23 y24,.slice y25 y26 y27⟩ (AN.one (x:=x) (r:=⟨.slice y1 y2 y3,.slice y4 y5 y6,.slice y7 y8 y9,.slice y10 y11 y12,.slice y13 y14 y15,.slice y16 y17 y18,.slice y19 y20 y21,.slice y22 y23 y24,.slice y25 y26 y27⟩) HP2.out)) (by simp only[maxLen];omega) (by omega) ?_);rintro ao' cap' w7 hn1 hn2 hO7 hg7 hat7 hlt7;have HZ7:=Hd (And.intro hO7 (And.intro hg7 hat7));clear hn1 hn2 hO7 hg7 hat7 hlt7)
    |fail)
   have HS7:=Hd (show CL AN 29 w l (k+1) (.slice ao' (k+1) cap') w7 from((HQ.out.below HB2.out).below (Ag w2 (.cells #[.string x.name,.int .i64 x.ep,.string x.ver,.string x.rel,.int .u8 x.arch,.string x.vendor,.slice y1 y2 y3,.slice y4 y5 y6,.slice y7 y8 y9,.slice y10 y11 y12,.slice y13 y14 y15,.slice y16 y17 y18,.slice y19 y20 y21,.slice y22 y23 y24,.slice y25 y26 y27] 29))).push HLt.out (r:=⟨.slice y1 y2 y3,.slice y4 y5 y6,.slice y7 y8 y9,.slice y10 y11 y12,.slice y13 y14 y15,.slice y16 y17 y18,.slice y19 y20 y21,.slice y22 y23 y24,.slice y25 y26 y27⟩) ((HO4.out.keep fun b hb=>HB2.out.block b (HO4.out.lt b hb)).alloc _) (m0:=wr.heap.size) HQ.out.bl.size (fun q hq=>(HQ.out.ownB q hq).2) (by rw[←HX.out];exact Ah.belN HP2.out (Ag _ _)) (by rw[←HX.out];exact HZ7.out.1) HZ7.out.2.1 HZ7.out.2.2)
   go_roundw
   case rel=>exact⟨k+1,by have:=HLt.out;omega,by go_num,HS7.out⟩
   case measure=>have:=HLt.out;simp[intOf];omega
  ·obtain rfl:k=l.length:=by omega
   have HD:=Hd (HQ.out.done (by omega) (by show 0<15;omega))
   go_wp2_with fail
   go_ret
   exact⟨_,rfl,HD.out,HQ.out.bl⟩
section
variable {o:Oper} {a:Act} {w:World} {K:Act→World→Prop} {Q:Exit→Act→World→Prop}
theorem N7 (t g q:Nat) (ho:o.op= .fieldAddr 41 (.tmp t) 0) (hx:a.eval (.tmp t)= .pointer (some ⟨g,q,none⟩)) (h:K (a.put o.dst (.pointer (some ⟨g,q,none⟩))) w):o.wp Tryz.prog a w K Q:=by
 unfold Oper.wp execOp
 simp only[ho,hx]
 go_simp
 exact h
theorem PG (t g k:Nat) (x:Int) (ho:o.op= .load 3 (.tmp t)) (hx:a.eval (.tmp t)= .pointer (some ⟨g,k,none⟩)) (hc:w.cell? ⟨g,k,none⟩=some (.int .i64 x)) (h:K (a.put o.dst (.int .i64 x)) w):o.wp Tryz.prog a w K Q:=by
 unfold Oper.wp execOp
 simp only[ho,hx]
 go_simp
 exact h
theorem MT (t u:Nat) (x:Int) (aa:Option Addr) (n c:Nat) (ho:o.op= .build 38 #[(0,.tmp t),(1,.tmp u)]) (hx:a.eval (.tmp t)= .int .i64 x) (hu:a.eval (.tmp u)= .slice aa n c) (h:K (a.put o.dst (.agg #[.int .i64 x,.slice aa n c])) w):o.wp Tryz.prog a w K Q:=by
 unfold Oper.wp execOp
 simp only[ho,List.map_toArray,List.map_cons,List.map_nil,hx,hu]
 go_simp
 exact h
theorem PF (t:Nat) (x:Int) (aa:Option Addr) (n c:Nat) (ho:o.op= .buildSlice 39 1 #[(0,.tmp t)]) (hx:a.eval (.tmp t)= .agg #[.int .i64 x,.slice aa n c]) (h:K (a.put o.dst (.slice (some ⟨w.heap.size,0,none⟩) 1 1)) (w.alloc (.cells #[.int .i64 x,.slice aa n c] 38))):o.wp Tryz.prog a w K Q:=by
 unfold Oper.wp execOp
 simp only[ho,List.map_toArray,List.map_cons,List.map_nil,hx]
 go_simp
 exact h
theorem JT (t:Nat) (v:Value) (ho:o.op= .call {callee:= .value (.func 55),args:= #[.tmp t],argTypes:= #[36]}) (hx:a.eval (.tmp t)=v) (hc:Calls Tryz.prog 55 #[v] w fun e w'=>∃u,e= .returned u∧K (a.put o.dst u) w'):o.wp Tryz.prog a w K Q:=by
 unfold Oper.wp execOp
 simp only[ho,resolve,Sem.run_bind,List.map_toArray,List.map_cons,List.map_nil,hx]
 go_simp
 refine hc.mono ?_
 rintro e w' ⟨u,rfl,hk⟩
 exact hk
end
theorem Hl {N:Nat} {w w':World} {x:AK} {r:Value} (h:Az.holds (Am N) w x r) (hb:Below w.heap.size w w'):Az.holds (Am N) w' x r:=
 Az.keep h hb.size fun b ⟨k1,k2⟩ hlt=>⟨hb.block b hlt,k1,fun i=>(World.frozen?_of_block (w:=w) (hb.block b hlt)).trans (k2 i)⟩
def O6 (gd gx:Nat) (x:AK) (r cur:Value) (N:Nat) (w:World):Nat→Value→Prop
 |0,v=>v= .pointer (some ⟨gd,0,none⟩)
 |1,v=>v=cur
 |2,v=>v= .pointer (some ⟨gx,0,none⟩)
 |3,v=>v= .int .i64 x.prio
 |4,v=>v= .pointer (some ⟨gx,1,none⟩)
 |5,v=>v=r
 |6,v=>LIn AN (Am N) w x.pkgs v
 |7,v=>∃v',v= .agg #[.int .i64 x.prio,v']∧LIn AN (Am N) w x.pkgs v'
 |8,v=>∃v' gb,v= .slice (some ⟨gb,0,none⟩) 1 1∧Blk w gb 38 #[.int .i64 x.prio,v']∧Az.holds (Am N) w x v'
 |_,_=>True
theorem Mz {gd gx:Nat} {x:AK} {r cur:Value} {N:Nat} {w w':World} (hb:Below w.heap.size w w'):∀{i:Nat} {v:Value},O6 gd gx x r cur N w i v→O6 gd gx x r cur N w' i v
 |0,_,h=>h
 |1,_,h=>h
 |2,_,h=>h
 |3,_,h=>h
 |4,_,h=>h
 |5,_,h=>h
 |6,_,h=>LIn.bel h hb
 |7,_,⟨v',e,h⟩=>⟨v',e,LIn.bel h hb⟩
 |8,_,⟨v',gb,e,h1,h2⟩=>⟨v',gb,e,h1.bel' hb,Hl h2 hb⟩
 |_+9,_,_=>trivial
abbrev P7:List Op:= [.fieldAddr 41 (.tmp 3) 0,.load 39 (.tmp 17),.fieldAddr 38 (.tmp 5) 0,.load 3 (.tmp 19),.fieldAddr 38 (.tmp 5) 1,.load 36 (.tmp 21),.call {callee:= .value (.func 55),args:= #[.tmp 22],argTypes:= #[36]},.build 38 #[(0,.tmp 20),(1,.tmp 23)],.buildSlice 39 1 #[(0,.tmp 24)],.call {callee:= .builtin .append,args:= #[.tmp 18,.tmp 25],argTypes:= #[39,39]},.fieldAddr 41 (.tmp 3) 0,.store 39 (.tmp 27) (.tmp 26)]
abbrev Oq:List (List Nat):= [[],[0],[],[2],[],[4],[5],[3,6],[7],[1,8,6],[9],[10,9]]
theorem QO {L:List Value} {n0 w0:World} {gd gx N0:Nat} {x:AK} {r cur:Value} {l:List AK} {cs:Array Value} {ops:Array Oper} {Q:Exit→Act→World→Prop} {id:Nat} (hL:L.length=30) (hsz:ops.size=12)
 (hL3:(L[3]?).getD undef= .pointer (some ⟨gd,0,none⟩)) (hL5:(L[5]?).getD undef= .pointer (some ⟨gx,0,none⟩)) (hbx:Blk n0 gx 38 #[.int .i64 x.prio,r]) (hbd:Blk n0 gd 41 cs) (hof:cs[0]?=some cur) (hx:Az.holds Ai w0 x r) (hw0:Below w0.heap.size w0 n0) (hsm:x.pkgs.length≤1048576∧∀p∈x.pkgs,p.small) (hac:Acc Az 38 N0 n0 l cur) (hgd:gd<N0) (hN0:N0≤n0.heap.size) (hln:l.length<1048576)
 (hops:(ops.toList.map fun o=>(o.op,o.guard))=P7.map fun x=>(x,none)) (hdst:(ops.toList.map (·.dst))= [some 17,some 18,some 19,some 20,some 21,some 22,some 23,some 24,some 25,some 26,some 27,none])
 (hdeps:((ops.toList.zip Oq).all fun x=>x.2.all fun d=>x.1.after.any fun e=>e.on==d && Region.binds .any e)=true)
 (hlow:(ops.toList.zipIdx.all fun x=>x.1.after.all fun e=>decide (e.on<x.2))=true)
 (hK:∀mid ao cap W,mid.length=12→Acc Az 38 N0 W (l++ [x]) (.slice ao (l.length+1) cap)→Blk W gd 41 (cs.setIfInBounds 0 (.slice ao (l.length+1) cap))→Ae (fun b=>b=gd∨cur.ownBlock=some b) n0 W→Q .normal (frm (L.take 17) mid (L.drop 29)) W):
 (Code.region id ops true).wp Tryz.prog Q {tmps:=L.toArray,defers:= []} n0:=by
 obtain⟨N,hN⟩:∃N,N=n0.heap.size:=⟨_,rfl⟩
 have hF3:∀mid,(frm (L.take 17) mid (L.drop 29)).eval (.tmp 3)= .pointer (some ⟨gd,0,none⟩):=fun mid=>(AI (by rw[List.length_take];omega)).trans (by rw[List.getElem?_take_of_lt (by omega)];exact hL3)
 have hF5:∀mid,(frm (L.take 17) mid (L.drop 29)).eval (.tmp 5)= .pointer (some ⟨gx,0,none⟩):=fun mid=>(AI (by rw[List.length_take];omega)).trans (by rw[List.getElem?_take_of_lt (by omega)];exact hL5)
 have hop_at:∀(i:Nat) (o:Oper) (x:Op),ops[i]?=some o→P7[i]?=some x→o.op=x∧o.guard=none:=fun i o x ho hx=>by
  have h4:=congrArg (fun l=>l[i]?) hops
  rw[List.getElem?_map,List.getElem?_map,Array.getElem?_toList,ho,hx]at h4
  exact Prod.mk.inj (Option.some.inj h4)
 have hds_at:∀(i:Nat) (o:Oper) (x:Option Tmp),ops[i]?=some o→([some 17,some 18,some 19,some 20,some 21,some 22,some 23,some 24,some 25,some 26,some 27,none]:List (Option Tmp))[i]?=some x→o.dst=x:=fun i o x ho hx=>by
  have h4:=congrArg (fun l=>l[i]?) hdst
  rw[List.getElem?_map,Array.getElem?_toList,ho,hx]at h4
  exact Option.some.inj h4
 obtain⟨ac,cc,hcur⟩:∃ac cc,cur= .slice ac l.length cc:=by
  obtain⟨xs,hown,_⟩:=hac.own
  exact Cl hown
 refine CZ (ok:=O6 gd gx x r cur N) (fun hb h=>Mz hb h) (n:=17) (K:=9) (M:=12) (N:=12) (by omega) (by omega) hsz (by omega) Oq (by rw[List.map_take,hdst];rfl) hdeps rfl (by kernel_rfl) hlow (fun i o mid w hi ho hm hb hdp=> ?_) (fun mid w hm hb hall=> ?_)
 ·have hbN:N≤w.heap.size:=hN▸hb.size
  have hcases:i=0∨i=1∨i=2∨i=3∨i=4∨i=5∨i=6∨i=7∨i=8:=by omega
  rcases hcases with rfl|rfl|rfl|rfl|rfl|rfl|rfl|rfl|rfl
  all_goals
   obtain⟨hop,hgd'⟩:=hop_at _ _ _ ho rfl
   have hd:=hdp _ rfl
   clear hdp hop_at hds_at ho
  ·exact⟨Ad hgd',fun Kc hKc=>N7 3 gd 0 hop (hF3 mid) (hKc _ _ rfl (Below.refl _ _))⟩
  ·subst hcur
   exact⟨Ad hgd',fun Kc hKc=>LJ 17 gd 0 _ _ _ hop (hd 0 (by simp)) (((hbd.bel' hb).cell 0).trans hof) (hKc _ _ rfl (Below.refl _ _))⟩
  ·exact⟨Ad hgd',fun Kc hKc=>QA 5 gx 0 hop (hF5 mid) (hKc _ _ rfl (Below.refl _ _))⟩
  ·exact⟨Ad hgd',fun Kc hKc=>PG 19 gx 0 _ hop (hd 2 (by simp)) ((hbx.bel' hb).cell 0) (hKc _ _ rfl (Below.refl _ _))⟩
  ·exact⟨Ad hgd',fun Kc hKc=>IL 5 gx 0 hop (hF5 mid) (hKc _ _ rfl (Below.refl _ _))⟩
  ·obtain⟨aa,cc,hr⟩:=hx.2.form
   subst hr
   exact⟨Ad hgd',fun Kc hKc=>ES 21 gx 1 _ _ _ hop (hd 4 (by simp)) ((hbx.bel' hb).cell 1) (hKc _ _ rfl (Below.refl _ _))⟩
  ·have e1:=hd 5 (by simp)
   refine⟨Ad hgd',fun Kc hKc=>JT 22 _ hop e1 ((FI x.pkgs r w (hx.2.below (Aa hw0 hb) fun _ _ _=>trivial) hsm.2 hsm.1).mono ?_)⟩
   rintro e w' ⟨v',rfl,k1,k2⟩
   exact⟨v',rfl,hKc _ w' (k1.keep (Nat.le_refl _) fun b ⟨j1,j2⟩ _=>⟨rfl,Nat.le_trans hbN j1,j2⟩) k2⟩
  ·have e1:=hd 3 (by simp)
   have e2:=hd 6 (by simp)
   obtain⟨v',hv'⟩:∃v',v'=(frm (L.take 17) mid (L.drop 29)).eval (.tmp (17+6)):=⟨_,rfl⟩
   rw[←hv']at e2
   dsimp only[O6]at e2
   obtain⟨aa,cc,rfl⟩:=e2.form
   exact⟨Ad hgd',fun Kc hKc=>MT 20 23 _ aa _ cc hop e1 hv'.symm (hKc _ _ ⟨_,rfl,e2⟩ (Below.refl _ _))⟩
  ·obtain⟨v',e1,e2⟩:=hd 7 (by simp)
   obtain⟨aa,cc,rfl⟩:=e2.form
   exact⟨Ad hgd',fun Kc hKc=>PF 24 _ aa _ cc hop e1 (hKc _ _ ⟨_,w.heap.size,rfl,Blk.new _ _ _,Hl (N:=N) (x:=x) ⟨hx.1,e2⟩ (Ag _ _)⟩ (Ag _ _))⟩
 ·have e0:ops.toList.drop 9= [ops[9]'(by omega),ops[10]'(by omega),ops[11]'(by omega)]:=by
   rw[List.drop_eq_getElem_cons (by rw[Array.length_toList];omega),List.drop_eq_getElem_cons (by rw[Array.length_toList];omega),List.drop_eq_getElem_cons (by rw[Array.length_toList];omega),List.drop_eq_nil_of_le (by rw[Array.length_toList];omega)]
   simp only[Array.getElem_toList]
  rw[e0]
  obtain⟨hp0,hg0⟩:=hop_at 9 _ _ (Array.getElem?_eq_getElem (by omega)) rfl
  have hd0:=hds_at 9 _ _ (Array.getElem?_eq_getElem (by omega)) rfl
  obtain⟨hp1,hg1⟩:=hop_at 10 _ _ (Array.getElem?_eq_getElem (by omega)) rfl
  have hd1:=hds_at 10 _ _ (Array.getElem?_eq_getElem (by omega)) rfl
  obtain⟨hp2,hg2⟩:=hop_at 11 _ _ (Array.getElem?_eq_getElem (by omega)) rfl
  have hd2:=hds_at 11 _ _ (Array.getElem?_eq_getElem (by omega)) rfl
  have hts:(frm (L.take 17) mid (L.drop 29)).tmps.size=30:=by
   show((L.take 17)++mid++L.drop 29).toArray.size=30
   simp[List.length_take,List.length_drop,hL,hm]
  have hF:(L.take 17).length=17:=by rw[List.length_take];omega
  have z1:=hall 1 (by omega)
  obtain⟨v',gb,z2,z3,z4⟩:=hall 8 (by omega)
  obtain⟨iD,hiD,hz0,hz1,hz2⟩:=Qc
  refine E0 (K:=Az) (r:=v') (y:=x) (m0:=N) Tryz.underlying39 hiD hz0 hz1 hz2 rfl (by decide) hp0 hg0 hd0 hp1 hg1 hd1 hp2 hg2 hd2 (fun a w K h1 h2=>N7 _ _ _ hp1 h1 h2) (fun a w K old aa n c h1 h2 h3 h4 h5 h6=>PO _ _ _ _ old aa n c hp2 h1 h2 h3 h4 h5 h6) z1 z2 (hF3 mid) (by decide) (by decide) (by rw[hts];decide) (by rw[hts];decide) (hbd.bel' hb) hof hgd (by decide) (hac.below hb) z3 z4 (by omega) (fun b hb2=> ?_) (by have:=hb.size;omega) (by omega) (by simp only[maxLen];omega) fun ao cap W k1 k2 k3=> ?_
  ·obtain⟨xs,hown,_⟩:=hac.own
   have:=hown.lt b hb2
   omega
  ·rw[BZ (n:=17) (d:=9) hF (by rw[hm];decide),BZ (n:=17) (d:=10) hF (by rw[List.length_set,hm];decide)]
   exact hK _ ao cap W (by rw[List.length_set,List.length_set];exact hm) k1 k2 ((Ae.of_below hb _).trans k3 fun _ _ h=>h)
structure CSt (d:AA) (w2:World) (g k:Nat) (xr xi:Value) (W:World):Prop where
 b1:Blk W (g+1) 41 #[.slice none 0 0,.slice none 0 0]
 b2:Blk W w2.heap.size 41 #[xr,xi]
 ac:Acc Az 38 (w2.heap.size+1) W (d.repos.take k) xr
 bl:Below w2.heap.size w2 W
theorem K5 (d:AA) (vr vi:Value) (w:World) (h:AR Ai w d vr vi) (hsm:d.small):Calls Tryz.prog 25 #[.agg #[vr,vi]] w (GU d w):=by
 obtain⟨ar,cr,rfl⟩:=h.repos.form
 obtain⟨ai,ci,rfl⟩:=h.inst.form
 obtain⟨n1,hn1⟩:∃n,n=d.repos.length:=⟨_,rfl⟩
 obtain⟨n2,hn2⟩:∃n,n=d.inst.length:=⟨_,rfl⟩
 have HD:=Hd h
 have HS:=Hd hsm
 have HN:=Hd (And.intro hn1 hn2)
 have hnb1:n1≤1048576:=hn1▸hsm.repos
 have HM:=Hd (show∀W',Below w.heap.size w W'→Calls Tryz.prog 55 #[.slice ai n2 ci] W' (GV AN W' d.inst)from fun W' hb=>by
  rw[hn2]
  exact FI d.inst _ W' (h.inst.below hb fun _ _ _=>trivial) hsm.inst.2 hsm.inst.1)
 rw[←hn1,←hn2]
 clear h hsm hn1 hn2
 obtain⟨g,hg⟩:∃g,g=w.heap.size:=⟨_,rfl⟩
 have HG:=Hd hg
 have HX0:=Hd (show Blk ((w.alloc (.cells #[.slice ar n1 cr,.slice ai n2 ci] 41)).alloc (.cells #[.slice none 0 0,.slice none 0 0] 41)) (g+1) 41 #[.slice none 0 0,.slice none 0 0]∧Blk ((w.alloc (.cells #[.slice ar n1 cr,.slice ai n2 ci] 41)).alloc (.cells #[.slice none 0 0,.slice none 0 0] 41)) g 41 #[.slice ar n1 cr,.slice ai n2 ci]∧Below w.heap.size w ((w.alloc (.cells #[.slice ar n1 cr,.slice ai n2 ci] 41)).alloc (.cells #[.slice none 0 0,.slice none 0 0] 41))from by
  have h2:=Blk.new (w.alloc (.cells #[.slice ar n1 cr,.slice ai n2 ci] 41)) 41 #[.slice none 0 0,.slice none 0 0]
  rw[World.size_alloc]at h2
  rw[hg]
  exact⟨h2,(Blk.new w 41 #[.slice ar n1 cr,.slice ai n2 ci]).bel' (Ag _ _),Aa (Ag _ _) (Ag _ _)⟩)
 clear hg
 go_enter Tryz.func25,Tryz.ntmps25
 go_wp2_with (first
  |(go_at_call 55;(with_reducible refine(HM.out _ (Aa (Ag w _) (Ag _ _))).mono ?_);rintro e w2 ⟨v',rfl,k1,k2⟩;obtain⟨ia,ic,rfl⟩:=k1.form;have HC:=Hd (show LIn AN (Am (g+2)) w2 d.inst (.slice ia d.inst.length ic)∧Below w.heap.size w w2∧Blk w2 (g+1) 41 #[.slice none 0 0,.slice none 0 0]from⟨k1.keep (Nat.le_refl _) fun b ⟨j1,j2⟩ _=>⟨rfl,(by have:=HG.out;rw[World.size_alloc,World.size_alloc]at j1;omega),j2⟩,Aa HX0.out.2.2 k2,HX0.out.1.bel' k2⟩);have z0:w2.cell? ⟨g,0,none⟩=some (.slice ar n1 cr):=(HX0.out.2.1.bel' k2).cell 0;have zl:g<w2.heap.size:=(HX0.out.2.1.bel' k2).lt;rw[←HG.out];clear k1 k2)
  |fail)
 have HQ0:=Hd (show CSt d w2 g 0 nV (.slice ia d.inst.length ic) (w2.alloc (.cells #[.slice none 0 0,.slice ia d.inst.length ic] 41))from⟨HC.out.2.2.bel' (Ag _ _),Blk.new _ _ _,Acc.nil _ _ _ _,Ag _ _⟩)
 have HZl:=Hd zl
 clear z0 zl HX0 HM
 go_loopw [13] (fun i wr=>∃k:Nat,k≤n1∧i= .int .i64 k∧∃xr,Hid (CSt d w2 g k xr (.slice ia d.inst.length ic) wr)) (fun i _=>n1-(intOf i).toNat)
 case atStart=>exact⟨0,by omega,rfl,_,HQ0.out⟩
 case round=>
  obtain⟨k,hk,rfl,xr,HQ⟩:=hrel
  by_cases hlt:k<n1
  ·have hki:(k:Int)<(n1:Int):=by omega
   obtain⟨b,o,r,ha,_,hcs0,hh0⟩:=HD.out.repos.at_ k (by have:=HN.out;omega)
   obtain⟨x,hx⟩:∃x,x=d.repos[k]'(by have:=HN.out;omega):=⟨_,rfl⟩
   rw[←hx]at hcs0 hh0
   subst ha
   have hBw:Below w.heap.size w wr:=Aa HC.out.2.1 HQ.out.bl
   have hpk:LIn AN Ai w x.pkgs r:=hh0.2
   obtain⟨xa,xc,hr⟩:=hpk.form
   have hr':(r:Value)= .slice xa x.pkgs.length xc:=hr
   subst hr'
   have hd:AX wr b (o+k*2) [.int .i64 x.prio,.slice xa x.pkgs.length xc]:=hcs0.below hBw
   have x0:wr.cell? ⟨b,o+k*2,none⟩=some (.int .i64 x.prio):=hd.2 0 (show 0<2 by omega)
   have x1:wr.cell? ⟨b,o+k*2+1,none⟩=some (.slice xa x.pkgs.length xc):=hd.2 1 (show 1<2 by omega)
   have xl:=hd.1
   have HLt:=Hd hlt
   have HX:=Hd (And.intro hx hh0)
   have HBw:=Hd hBw
   clear hx hcs0 hh0 hpk hr hd hBw
   go_upto_region 5 with fail
   have hbn:=Ag wr (.cells #[.int .i64 x.prio,.slice xa x.pkgs.length xc] 38)
   have hll:(d.repos.take k).length=k:=by rw[List.length_take];have:=HN.out;have:=HLt.out;omega
   have hxm:x∈d.repos:=HX.out.1▸List.getElem_mem _
   refine QO (w0:=w) (gd:=w2.heap.size) (gx:=wr.heap.size) (N0:=w2.heap.size+1) (x:=x) (r:= .slice xa x.pkgs.length xc) (cur:=xr) (l:=d.repos.take k) (cs:= #[xr,.slice ia d.inst.length ic]) (by kernel_rfl) (by kernel_rfl) rfl rfl (Blk.new _ _ _) (HQ.out.b2.bel' hbn) rfl HX.out.2 (Aa HBw.out hbn) (HS.out.pkgs x hxm) (HQ.out.ac.below hbn) (by omega) (by have:=HQ.out.b2.lt;rw[World.size_alloc];omega) (by rw[hll];have:=HLt.out;omega) (by kernel_rfl) (by kernel_rfl) (by kernel_rfl) (by kernel_rfl) ?_
   intro mid ao cap V' hm k1 k2 k3
   obtain⟨m0,m1,m2,m3,m4,m5,m6,m7,m8,m9,m10,m11,rfl⟩:=Dr hm
   rw[hll]at k1 k2
   have HV:Hid (CSt d w2 g (k+1) (.slice ao (k+1) cap) (.slice ia d.inst.length ic) V'):=Hd (by
    have hzl:=HZl.out
    have hz1:=HC.out.2.2.lt
    have hxi:∀q,xr.ownBlock=some q→w2.heap.size+1≤q:=fun q hq=>by
     obtain⟨_,_,_,h3,_⟩:=HQ.out.ac.ex
     exact h3 q hq
    refine⟨(HQ.out.b1.bel' hbn).touch k3 (fun hf=> ?_),k2,?_,(Aa HQ.out.bl hbn).trans (k3.below (Nat.le_trans HQ.out.bl.size hbn.size) fun q hq hf=> ?_)⟩
    ·rcases hf with hf|hf
     ·omega
     ·have:=hxi _ hf;omega
    ·have hxe:=HX.out.1
     rw[List.take_succ_eq_append_getElem (by have:=HN.out;have:=HLt.out;omega),←hxe]
     exact k1
    ·rcases hf with hf|hf
     ·omega
     ·have:=hxi _ hf;omega)
   clear hm k1 k2 k3 hbn hll hxm
   simp only[frm,List.take_succ_cons,List.take_zero,List.drop_succ_cons,List.drop_zero,List.cons_append,List.nil_append]
   rename_i hk
   refine hk _ _ ?_
   go_wp2_with fail
   go_roundw
   case rel=>exact⟨k+1,HLt.out,by go_num,_,HV.out⟩
   case measure=>have:=HLt.out;simp[intOf];omega
  ·obtain rfl:k=n1:=by omega
   have hrl:LIn Az (Am (w2.heap.size+1)) wr d.repos xr:=by
    have h1:=HQ.out.ac
    rw[List.take_of_length_le (by have:=HN.out;omega)]at h1
    exact h1.done (by have:=HD.out.repos.bound;omega) (by decide)
   obtain⟨oa,oc,hxr⟩:=hrl.form
   have hk1:d.repos.length=k:=HN.out.1.symm
   have HRl:=Hd hrl
   rw[hk1]at hxr
   subst hxr
   have x20:wr.cell? ⟨w2.heap.size,0,none⟩=some (.slice oa k oc):=HQ.out.b2.cell 0
   have x21:wr.cell? ⟨w2.heap.size,1,none⟩=some (.slice ia d.inst.length ic):=HQ.out.b2.cell 1
   have x2l:=HQ.out.b2.lt
   have x10:wr.cell? ⟨g+1,0,none⟩=some nV:=HQ.out.b1.cell 0
   have x11:wr.cell? ⟨g+1,1,none⟩=some nV:=HQ.out.b1.cell 1
   have f10:=HQ.out.b1.frozen 0
   have f11:=HQ.out.b1.frozen 1
   have x1l:=HQ.out.b1.lt
   clear hk1 hrl
   go_wp2_with fail
   have hgw:=HG.out
   have hzl:=HC.out.2.2.lt
   have e0:∀b,g+2≤b→((wr.setCell ⟨g+1,0,none⟩ (.slice oa k oc)).setCell ⟨g+1,1,none⟩ (.slice ia d.inst.length ic)).heap[b]?=wr.heap[b]?:=fun b hb=>
    (Below.heap_setCell _ ⟨g+1,1,none⟩ _ b (by show b≠g+1;omega)).trans (Below.heap_setCell _ ⟨g+1,0,none⟩ _ b (by show b≠g+1;omega))
   refine bodyPost_ret (results_cell_row rfl _ _ (g+1) 41 _ (0,0) _ rfl ((HQ.out.b1.set_ 0 (.slice oa k oc)).set_ 1 (.slice ia d.inst.length ic)) Tryz.underlying41 rfl (by kernel_rfl)) rfl ⟨_,_,rfl,⟨?_,?_⟩,?_⟩
   ·exact HRl.out.keep (by simp) fun b ⟨j1,j2⟩ _=>⟨e0 b (by omega),by omega,fun i=>(World.frozen?_of_block (w:=wr) (e0 b (by omega))).trans (j2 i)⟩
   ·exact(HC.out.1.bel HQ.out.bl).keep (by simp) fun b ⟨j1,j2⟩ _=>⟨e0 b (by omega),by omega,fun i=>(World.frozen?_of_block (w:=wr) (e0 b (by omega))).trans (j2 i)⟩
   ·exact(Aa HC.out.2.1 HQ.out.bl).trans ((((Ae.refl (fun b=>b=g+1) wr).setCell (fun _=>rfl) _).setCell (fun _=>rfl) _).below (Aa HC.out.2.1 HQ.out.bl).size fun b hb e=>by omega)
def Q5 (ok:World→Nat→Value→Prop) (K:Nat) (n0:World) (F B:List Value) (listed:Array Bool) (a:Act) (w:World):Prop:=
 ∃mid,a=frm F mid B∧mid.length=K∧listed.size=K∧Below n0.heap.size n0 w∧∀i,i<K→listed.getD i false=true→ok w i ((mid[i]?).getD undef)
theorem Nc {ok:World→Nat→Value→Prop} (hmono:∀{w w':World} {i:Nat} {v:Value},Below w.heap.size w w'→ok w i v→ok w' i v) {n K:Nat} {L:List Value} {n0:World} {ops:Array Oper} {Q:Exit→Act→World→Prop} {id:Nat}
 (hL:n+K≤L.length) (hsz:ops.size=K) (deps:List (List Nat))
 (hdst:(ops.toList.map (·.dst))=(List.range K).map fun i=>some (n+i))
 (hdeps:((ops.toList.zip deps).all fun x=>x.2.all fun d=>x.1.after.any fun e=>e.on==d && Region.binds .any e)=true) (hdl:deps.length=K)
 (hlow:(ops.toList.zipIdx.all fun x=>x.1.after.all fun e=>decide (e.on<x.2))=true)
 (hstep:∀i o mid w,i<K→ops[i]?=some o→mid.length=K→Below n0.heap.size n0 w→(∀ds,deps[i]?=some ds→∀j∈ds,ok w j ((frm (L.take n) mid (L.drop (n+K))).eval (.tmp (n+j))))→
   (Region.wanted o (yielded ops (frm (L.take n) mid (L.drop (n+K))).tmps)=true∧∀Kc:Act→World→Prop,(∀v w',ok w' i v→Below w.heap.size w w'→Kc ((frm (L.take n) mid (L.drop (n+K))).put o.dst v) w')→o.wp Tryz.prog (frm (L.take n) mid (L.drop (n+K))) w Kc Q)∨
   (Region.wanted o (yielded ops (frm (L.take n) mid (L.drop (n+K))).tmps)=false∧ok w i undef))
 (hK:∀mid W,mid.length=K→Below n0.heap.size n0 W→(∀i,i<K→ok W i ((mid[i]?).getD undef))→Q .normal (frm (L.take n) mid (L.drop (n+K))) W):
 (Code.region id ops true).wp Tryz.prog Q {tmps:=L.toArray,defers:= []} n0:=by
 rw[←Gv n K L]
 have hF:(L.take n).length=n:=by rw[List.length_take];omega
 have hm:((L.drop n).take K).length=K:=by rw[List.length_take,List.length_drop];omega
 refine wp_region_any (by kernel_rfl) (D1 (Q5 ok K n0 (L.take n) (L.drop (n+K))) (fun listed a w i hinv hi=> ?_) (fun listed a w h hr=> ?_) ops.size _ _ _ (by simp) ?_)
 ·obtain⟨mid,rfl,hm,hl,hb,hs⟩:=hinv
  obtain⟨hi1,hun⟩:=DO hi
  obtain⟨o,ho,haft⟩:=DP hi
  have hoL:ops.toList[i]?=some o:=by rw[Array.getElem?_toList];exact ho
  have hiK:i<K:=by omega
  have hd:o.dst=some (n+i):=by
   have h4:=congrArg (fun l=>l[i]?) hdst
   simp only[List.getElem?_map,hoL,Option.map_some,List.getElem?_range hiK]at h4
   exact Option.some.inj h4
  have hdep:∀ds,deps[i]?=some ds→∀x∈ds,x<K∧listed.getD x false=true:=fun ds hds x hx=>by
   have h5:=List.all_eq_true.1 hdeps (o,ds) (List.mem_of_getElem? (i:=i) (by rw[List.getElem?_zip_eq_some];exact⟨hoL,hds⟩))
   have h6:=List.all_eq_true.1 h5 x hx
   rw[Array.any_eq_true]at h6
   obtain⟨j,hj,h7⟩:=h6
   simp only[Bool.and_eq_true,beq_iff_eq]at h7
   have h8:listed.getD x false=true:=by rw[←h7.1];exact haft _ (by simp) h7.2
   refine⟨?_,h8⟩
   by_cases hx:x<listed.size
   ·omega
   ·rw[Array.getD_eq_getD_getElem?,Array.getElem?_eq_none (by omega)]at h8
    cases h8
  have hset:∀v w',Below w.heap.size w w'→ok w' i v→Q5 ok K n0 (L.take n) (L.drop (n+K)) (listed.setIfInBounds i true) ((frm (L.take n) mid (L.drop (n+K))).put o.dst v) w':=fun v w' hw hv=>by
   rw[hd]
   refine⟨mid.set i v,BZ hF (by omega) v,by rw[List.length_set];exact hm,by simpa using hl,Aa hb hw,fun j hj hlj=> ?_⟩
   by_cases hji:j=i
   ·subst hji
    rw[List.getElem?_set_self (by omega)]
    exact hv
   ·rw[List.getElem?_set_ne (fun e=>hji e.symm)]
    refine hmono hw (hs j hj ?_)
    simpa [Array.getD_eq_getD_getElem?,Array.getElem?_setIfInBounds_ne (fun e=>hji e.symm:i≠j)]using hlj
  have h0:=hstep i o mid w hiK ho hm hb fun ds hds j hj=>by
   obtain⟨k1,k2⟩:=hdep ds hds j hj
   rw[DU hF (by omega)]
   exact hs j k1 k2
  unfold wpOp
  rw[ho]
  rcases h0 with ⟨h1,h2⟩|⟨h1,h2⟩
  ·simp only[h1,if_true]
   exact Or.inl (h2 _ fun v w' hv hw=>hset v w' hw hv)
  ·simp only[h1,Bool.false_eq_true,if_false]
   exact hset undef w (Below.refl _ _) h2
 ·obtain⟨mid,rfl,h1,h2,h3,h4⟩:=h
  have hall:=E5 hlow (by omega) hr
  exact hK mid w h1 h3 fun i hi=>h4 i hi (hall i (by omega))
 ·refine⟨_,rfl,hm,by simp[hsz],(Below.refl _ n0).drew,fun j _ hj=> ?_⟩
  rw[Array.getD_eq_getD_getElem?,Array.getElem?_replicate]at hj
  split at hj<;>cases hj
theorem AY {o:Oper} {ops:Array Oper} {a:Act} {n k:Nat} {b c:Bool} (h:o.guard=some (k,b)) (hd:((ops[k]?).bind (·.dst))=some (n+k)) (hv:a.eval (.tmp (n+k))= .bool c):Region.wanted o (yielded ops a.tmps)=(c==b):=by
 unfold Region.wanted
 rw[h]
 have hy:yielded ops a.tmps k=some c:=by
  unfold yielded
  rw[hd]
  have hv2:(a.tmps[n+k]?).getD undef= .bool c:=by simpa [Act.eval]using hv
  cases hc:a.tmps[n+k]? with
  |none=>rw[hc]at hv2;cases hv2
  |some v=>
   rw[hc]at hv2
   have hv3:v= .bool c:=hv2
   subst hv3
   show(match a.tmps[n+k]? with|some (.bool b)=>some b|_=>none)=some c
   rw[hc]
 simp only[hy]
 cases b<;>cases c<;>rfl
section
variable {o:Oper} {a:Act} {w:World} {K:Act→World→Prop} {Q:Exit→Act→World→Prop}
theorem ER (t g:Nat) (a1 a2:Option Addr) (n1 c1 n2 c2:Nat) (ho:o.op= .load 41 (.tmp t)) (hx:a.eval (.tmp t)= .pointer (some ⟨g,0,none⟩)) (hb:Blk w g 41 #[.slice a1 n1 c1,.slice a2 n2 c2]) (h:K (a.put o.dst (.agg #[.slice a1 n1 c1,.slice a2 n2 c2])) w):o.wp Tryz.prog a w K Q:=by
 have h0:w.cell? ⟨g,0,none⟩=some (.slice a1 n1 c1):=hb.cell 0
 have h1:w.cell? ⟨g,1,none⟩=some (.slice a2 n2 c2):=hb.cell 1
 have hl:=hb.lt
 unfold Oper.wp execOp
 simp only[ho,hx]
 go_simp
 exact h
theorem PD (t u:Nat) (p q:Bool) (ho:o.op= .binOp .neq 4 (.tmp t) (.tmp u) 4) (hx:a.eval (.tmp t)= .bool p) (hu:a.eval (.tmp u)= .bool q) (h:K (a.put o.dst (.bool (p !=q))) w):o.wp Tryz.prog a w K Q:=by
 unfold Oper.wp execOp
 simp only[ho,hx,hu]
 go_simp
 cases p<;>cases q<;>exact h
end
theorem Lm {l:List Value} (h:l.length=24):∃m0 m1 m2 m3 m4 m5 m6 m7 m8 m9 m10 m11 n0 n1 n2 n3 n4 n5 n6 n7 n8 n9 n10 n11,l= [m0,m1,m2,m3,m4,m5,m6,m7,m8,m9,m10,m11,n0,n1,n2,n3,n4,n5,n6,n7,n8,n9,n10,n11]:=by
 obtain⟨m0,m1,m2,m3,m4,m5,m6,m7,m8,m9,m10,m11,e1⟩:=Dr (l:=l.take 12) (by rw[List.length_take];omega)
 obtain⟨n0,n1,n2,n3,n4,n5,n6,n7,n8,n9,n10,n11,e2⟩:=Dr (l:=l.drop 12) (by rw[List.length_drop];omega)
 exact⟨m0,m1,m2,m3,m4,m5,m6,m7,m8,m9,m10,m11,n0,n1,n2,n3,n4,n5,n6,n7,n8,n9,n10,n11,by rw[←List.take_append_drop 12 l,e1,e2];rfl⟩
section
variable {o:Oper} {a:Act} {w:World} {K:Act→World→Prop} {Q:Exit→Act→World→Prop}
theorem Dl (t g:Nat) (a1 a2:Option Addr) (n1 c1 n2 c2:Nat) (ho:o.op= .load 55 (.tmp t)) (hx:a.eval (.tmp t)= .pointer (some ⟨g,0,none⟩)) (hb:Blk w g 55 #[.slice a1 n1 c1,.slice a2 n2 c2]) (h:K (a.put o.dst (.agg #[.slice a1 n1 c1,.slice a2 n2 c2])) w):o.wp Tryz.prog a w K Q:=by
 have h0:w.cell? ⟨g,0,none⟩=some (.slice a1 n1 c1):=hb.cell 0
 have h1:w.cell? ⟨g,1,none⟩=some (.slice a2 n2 c2):=hb.cell 1
 have hl:=hb.lt
 unfold Oper.wp execOp
 simp only[ho,hx]
 go_simp
 exact h
theorem KO (t:Nat) (v:Value) (ho:o.op= .call {callee:= .value (.func 15),args:= #[.tmp t],argTypes:= #[41]}) (hx:a.eval (.tmp t)=v) (hc:Calls Tryz.prog 15 #[v] w fun e w'=>∃u,e= .returned u∧K (a.put o.dst u) w'):o.wp Tryz.prog a w K Q:=by
 unfold Oper.wp execOp
 simp only[ho,resolve,Sem.run_bind,List.map_toArray,List.map_cons,List.map_nil,hx]
 go_simp
 refine hc.mono ?_
 rintro e w' ⟨u,rfl,hk⟩
 exact hk
theorem IK (t:Nat) (v:Value) (ho:o.op= .call {callee:= .value (.func 22),args:= #[.tmp t],argTypes:= #[55]}) (hx:a.eval (.tmp t)=v) (hc:Calls Tryz.prog 22 #[v] w fun e w'=>∃u,e= .returned u∧K (a.put o.dst u) w'):o.wp Tryz.prog a w K Q:=by
 unfold Oper.wp execOp
 simp only[ho,resolve,Sem.run_bind,List.map_toArray,List.map_cons,List.map_nil,hx]
 go_simp
 refine hc.mono ?_
 rintro e w' ⟨u,rfl,hk⟩
 exact hk
theorem MR (t:Nat) (v:Value) (ho:o.op= .call {callee:= .value (.func 25),args:= #[.tmp t],argTypes:= #[41]}) (hx:a.eval (.tmp t)=v) (hc:Calls Tryz.prog 25 #[v] w fun e w'=>∃u,e= .returned u∧K (a.put o.dst u) w'):o.wp Tryz.prog a w K Q:=by
 unfold Oper.wp execOp
 simp only[ho,resolve,Sem.run_bind,List.map_toArray,List.map_cons,List.map_nil,hx]
 go_simp
 refine hc.mono ?_
 rintro e w' ⟨u,rfl,hk⟩
 exact hk
theorem MQ (t u:Nat) (v1 v2:Value) (ho:o.op= .call {callee:= .value (.func 23),args:= #[.tmp t,.tmp u],argTypes:= #[41,41]}) (hx:a.eval (.tmp t)=v1) (hu:a.eval (.tmp u)=v2) (hc:Calls Tryz.prog 23 #[v1,v2] w fun e w'=>∃u,e= .returned u∧K (a.put o.dst u) w'):o.wp Tryz.prog a w K Q:=by
 unfold Oper.wp execOp
 simp only[ho,resolve,Sem.run_bind,List.map_toArray,List.map_cons,List.map_nil,hx,hu]
 go_simp
 refine hc.mono ?_
 rintro e w' ⟨u,rfl,hk⟩
 exact hk
theorem DV (t u:Nat) (v1 v2:Value) (ho:o.op= .call {callee:= .value (.func 24),args:= #[.tmp t,.tmp u],argTypes:= #[55,55]}) (hx:a.eval (.tmp t)=v1) (hu:a.eval (.tmp u)=v2) (hc:Calls Tryz.prog 24 #[v1,v2] w fun e w'=>∃u,e= .returned u∧K (a.put o.dst u) w'):o.wp Tryz.prog a w K Q:=by
 unfold Oper.wp execOp
 simp only[ho,resolve,Sem.run_bind,List.map_toArray,List.map_cons,List.map_nil,hx,hu]
 go_simp
 refine hc.mono ?_
 rintro e w' ⟨u,rfl,hk⟩
 exact hk
theorem JS (t u:Nat) (x:Int) (ho:o.op= .binOp .neq 42 (.tmp t) (.tmp u) 42) (hx:a.eval (.tmp t)= .int .i64 x) (hu:a.eval (.tmp u)= .int .i64 x) (h:K (a.put o.dst (.bool false)) w):o.wp Tryz.prog a w K Q:=by
 unfold Oper.wp execOp
 simp only[ho,hx,hu]
 go_simp
 first
  |exact h
  |(simp only[bne_self_eq_false];exact h)
theorem N4 (t u:Nat) (x:ByteArray) (ho:o.op= .binOp .neq 9 (.tmp t) (.tmp u) 9) (hx:a.eval (.tmp t)= .string x) (hu:a.eval (.tmp u)= .string x) (h:K (a.put o.dst (.bool false)) w):o.wp Tryz.prog a w K Q:=by
 unfold Oper.wp execOp
 simp only[ho,hx,hu]
 go_simp
 first
  |exact h
  |(simp only[bne_self_eq_false];exact h)
theorem LG (t:Nat) (ho:o.op= .unOp .not 4 (.tmp t)) (hx:a.eval (.tmp t)= .bool true) (h:K (a.put o.dst (.bool false)) w):o.wp Tryz.prog a w K Q:=by
 unfold Oper.wp execOp
 simp only[ho,hx]
 go_simp
 exact h
end
def QT (va vb vz:Value) (d:AA) (T:Bool) (c ea:Int) (sa:ByteArray):World→Nat→Value→Prop
 |_,0,v=>v=va
 |_,1,v=>v= .int .i64 c
 |_,2,v=>v=va
 |_,3,v=>v= .int .i64 c
 |_,4,v=>v= .bool false
 |_,5,v=>v= .bool false
 |_,6,v=>v= .string sa
 |_,7,v=>v= .string sa
 |_,8,v=>v= .bool false
 |_,9,v=>v= .bool false
 |_,10,v=>v= .bool false
 |_,11,v=>v= .int .i64 ea
 |_,12,v=>v= .int .i64 ea
 |_,13,v=>v= .bool false
 |_,14,v=>v= .bool false
 |_,15,v=>v= .bool false
 |_,16,v=>v=va
 |_,17,v=>v=vb
 |_,18,v=>v= .bool T
 |_,19,v=>v=va
 |_,20,v=>v=vb
 |_,21,v=>v= .bool T
 |_,22,v=>v= .bool false
 |_,23,v=>v= .bool false
 |_,24,v=>v= .bool false
 |_,25,v=>v=va
 |w,26,v=>∃vr vi,v= .agg #[vr,vi]∧AR Ai w d vr vi
 |_,27,v=>v=va
 |_,28,v=>v= .bool true
 |_,29,v=>v= .bool false
 |_,30,v=>v= .bool false
 |_,31,v=>v= .bool false
 |_,32,v=>v=vz
 |_,33,v=>v=va
 |_,34,v=>v= .bool true
 |_,35,v=>v= .bool false
 |_,36,v=>v= .bool false
 |_,_,_=>True
abbrev P4:List (Op×Option (Nat×Bool)):= [(.load 41 (.tmp 3),none),(.call {callee:= .value (.func 15),args:= #[.tmp 47],argTypes:= #[41]},none),(.load 55 (.tmp 7),none),(.call {callee:= .value (.func 22),args:= #[.tmp 49],argTypes:= #[55]},none),(.binOp .neq 42 (.tmp 48) (.tmp 50) 42,none),(.move (.tmp 51),none),(.move (.tmp 10),some (5,false)),(.move (.tmp 12),some (5,false)),(.binOp .neq 9 (.tmp 53) (.tmp 54) 9,some (5,false)),(.pick (.tmp 52) (.const (.bool true)) (.tmp 55),none),(.move (.tmp 56),none),(.move (.tmp 11),some (10,false)),(.move (.tmp 13),some (10,false)),(.binOp .neq 42 (.tmp 58) (.tmp 59) 42,some (10,false)),(.pick (.tmp 57) (.const (.bool true)) (.tmp 60),none),(.move (.tmp 61),none),(.load 41 (.tmp 3),some (15,false)),(.load 41 (.tmp 4),some (15,false)),(.call {callee:= .value (.func 23),args:= #[.tmp 63,.tmp 64],argTypes:= #[41,41]},some (15,false)),(.load 55 (.tmp 7),some (15,false)),(.load 55 (.tmp 8),some (15,false)),(.call {callee:= .value (.func 24),args:= #[.tmp 66,.tmp 67],argTypes:= #[55,55]},some (15,false)),(.binOp .neq 4 (.tmp 65) (.tmp 68) 4,some (15,false)),(.pick (.tmp 62) (.const (.bool true)) (.tmp 69),none),(.move (.tmp 70),none),(.load 41 (.tmp 3),some (24,false)),(.call {callee:= .value (.func 25),args:= #[.tmp 72],argTypes:= #[41]},some (24,false)),(.load 55 (.tmp 7),some (24,false)),(.call {callee:= .value (.func 24),args:= #[.tmp 73,.tmp 74],argTypes:= #[55,55]},some (24,false)),(.unOp .not 4 (.tmp 75),some (24,false)),(.pick (.tmp 71) (.const (.bool true)) (.tmp 76),none),(.move (.tmp 77),none),(.load 55 (.tmp 9),some (31,false)),(.load 55 (.tmp 7),some (31,false)),(.call {callee:= .value (.func 24),args:= #[.tmp 79,.tmp 80],argTypes:= #[55,55]},some (31,false)),(.unOp .not 4 (.tmp 81),some (31,false)),(.pick (.tmp 78) (.const (.bool true)) (.tmp 82),none)]
abbrev Om:List (List Nat):= [[],[0],[],[2],[1,3],[4],[5],[5],[6,7,5],[5,8],[9],[10],[10],[11,12,10],[10,13],[14],[15],[15],[16,17,15],[15],[15],[19,20,15],[18,21,15],[15,22],[23],[24],[25,24],[24],[26,27,24],[28,24],[24,29],[30],[31],[31],[32,33,31],[34,31],[31,35]]
theorem QM {L:List Value} {n0:World} {ga gb gx gy gz:Nat} {a1 a2 b1 b2 z1 z2:Option Addr} {n1 c1 n2 c2 m1 d1 m2 d2 e1 e2:Nat} {d:AA} {T:Bool} {c ea:Int} {sa:ByteArray} {ops:Array Oper} {Q:Exit→Act→World→Prop} {id:Nat} (hL:L.length=119) (hsz:ops.size=37)
 (hL3:(L[3]?).getD undef= .pointer (some ⟨ga,0,none⟩)) (hL4:(L[4]?).getD undef= .pointer (some ⟨gb,0,none⟩)) (hL7:(L[7]?).getD undef= .pointer (some ⟨gx,0,none⟩)) (hL8:(L[8]?).getD undef= .pointer (some ⟨gy,0,none⟩)) (hL9:(L[9]?).getD undef= .pointer (some ⟨gz,0,none⟩)) (hL10:(L[10]?).getD undef= .string sa) (hL11:(L[11]?).getD undef= .int .i64 ea) (hL12:(L[12]?).getD undef= .string sa) (hL13:(L[13]?).getD undef= .int .i64 ea)
 (hga:Blk n0 ga 41 #[.slice a1 n1 c1,.slice a2 n2 c2]) (hgb:Blk n0 gb 41 #[.slice b1 m1 d1,.slice b2 m2 d2]) (hgx:Blk n0 gx 55 #[.slice a1 n1 c1,.slice a2 n2 c2]) (hgy:Blk n0 gy 55 #[.slice b1 m1 d1,.slice b2 m2 d2]) (hgz:Blk n0 gz 55 #[.slice z1 n1 e1,.slice z2 n2 e2])
 (hck:∀w,Below n0.heap.size n0 w→Calls Tryz.prog 15 #[.agg #[.slice a1 n1 c1,.slice a2 n2 c2]] w fun e w'=>e= .returned (.int .i64 c)∧Below w.heap.size w w')
 (hrck:∀w,Below n0.heap.size n0 w→Calls Tryz.prog 22 #[.agg #[.slice a1 n1 c1,.slice a2 n2 c2]] w fun e w'=>e= .returned (.int .i64 c)∧Below w.heap.size w w')
 (hcs:∀w,Below n0.heap.size n0 w→Calls Tryz.prog 23 #[.agg #[.slice a1 n1 c1,.slice a2 n2 c2],.agg #[.slice b1 m1 d1,.slice b2 m2 d2]] w fun e w'=>e= .returned (.bool T)∧Below w.heap.size w w')
 (hrs:∀w,Below n0.heap.size n0 w→Calls Tryz.prog 24 #[.agg #[.slice a1 n1 c1,.slice a2 n2 c2],.agg #[.slice b1 m1 d1,.slice b2 m2 d2]] w fun e w'=>e= .returned (.bool T)∧Below w.heap.size w w')
 (hcp:∀w,Below n0.heap.size n0 w→Calls Tryz.prog 25 #[.agg #[.slice a1 n1 c1,.slice a2 n2 c2]] w fun e w'=>∃vr vi,e= .returned (.agg #[vr,vi])∧AR Ai w' d vr vi∧Below w.heap.size w w')
 (hrw:∀w vr vi,Below n0.heap.size n0 w→AR Ai w d vr vi→Calls Tryz.prog 24 #[.agg #[vr,vi],.agg #[.slice a1 n1 c1,.slice a2 n2 c2]] w fun e w'=>e= .returned (.bool true)∧Below w.heap.size w w')
 (hrz:∀w,Below n0.heap.size n0 w→Calls Tryz.prog 24 #[.agg #[.slice z1 n1 e1,.slice z2 n2 e2],.agg #[.slice a1 n1 c1,.slice a2 n2 c2]] w fun e w'=>e= .returned (.bool true)∧Below w.heap.size w w')
 (hops:(ops.toList.map fun o=>(o.op,o.guard))=P4) (hdst:(ops.toList.map (·.dst))=(List.range 37).map fun i=>some (47+i))
 (hdeps:((ops.toList.zip Om).all fun x=>x.2.all fun d=>x.1.after.any fun e=>e.on==d && Region.binds .any e)=true)
 (hlow:(ops.toList.zipIdx.all fun x=>x.1.after.all fun e=>decide (e.on<x.2))=true)
 (hK:∀mid W,mid.length=37→Below n0.heap.size n0 W→(mid[36]?).getD undef= .bool false→Q .normal (frm (L.take 47) mid (L.drop 84)) W):
 (Code.region id ops true).wp Tryz.prog Q {tmps:=L.toArray,defers:= []} n0:=by
 have hF3:∀mid,(frm (L.take 47) mid (L.drop 84)).eval (.tmp 3)= .pointer (some ⟨ga,0,none⟩):=fun mid=>(AI (by rw[List.length_take];omega)).trans (by rw[List.getElem?_take_of_lt (by omega)];exact hL3)
 have hF4:∀mid,(frm (L.take 47) mid (L.drop 84)).eval (.tmp 4)= .pointer (some ⟨gb,0,none⟩):=fun mid=>(AI (by rw[List.length_take];omega)).trans (by rw[List.getElem?_take_of_lt (by omega)];exact hL4)
 have hF7:∀mid,(frm (L.take 47) mid (L.drop 84)).eval (.tmp 7)= .pointer (some ⟨gx,0,none⟩):=fun mid=>(AI (by rw[List.length_take];omega)).trans (by rw[List.getElem?_take_of_lt (by omega)];exact hL7)
 have hF8:∀mid,(frm (L.take 47) mid (L.drop 84)).eval (.tmp 8)= .pointer (some ⟨gy,0,none⟩):=fun mid=>(AI (by rw[List.length_take];omega)).trans (by rw[List.getElem?_take_of_lt (by omega)];exact hL8)
 have hF9:∀mid,(frm (L.take 47) mid (L.drop 84)).eval (.tmp 9)= .pointer (some ⟨gz,0,none⟩):=fun mid=>(AI (by rw[List.length_take];omega)).trans (by rw[List.getElem?_take_of_lt (by omega)];exact hL9)
 have hF10:∀mid,(frm (L.take 47) mid (L.drop 84)).eval (.tmp 10)= .string sa:=fun mid=>(AI (by rw[List.length_take];omega)).trans (by rw[List.getElem?_take_of_lt (by omega)];exact hL10)
 have hF11:∀mid,(frm (L.take 47) mid (L.drop 84)).eval (.tmp 11)= .int .i64 ea:=fun mid=>(AI (by rw[List.length_take];omega)).trans (by rw[List.getElem?_take_of_lt (by omega)];exact hL11)
 have hF12:∀mid,(frm (L.take 47) mid (L.drop 84)).eval (.tmp 12)= .string sa:=fun mid=>(AI (by rw[List.length_take];omega)).trans (by rw[List.getElem?_take_of_lt (by omega)];exact hL12)
 have hF13:∀mid,(frm (L.take 47) mid (L.drop 84)).eval (.tmp 13)= .int .i64 ea:=fun mid=>(AI (by rw[List.length_take];omega)).trans (by rw[List.getElem?_take_of_lt (by omega)];exact hL13)
 have hop_at:∀(i:Nat) (o:Oper) (x:Op×Option (Nat×Bool)),ops[i]?=some o→P4[i]?=some x→o.op=x.1∧o.guard=x.2:=fun i o x ho hx=>by
  have h4:=congrArg (fun l=>l[i]?) hops
  rw[List.getElem?_map,Array.getElem?_toList,ho,hx]at h4
  exact Prod.mk.inj (Option.some.inj h4)
 have hda:∀k,k<37→((ops[k]?).bind (·.dst))=some (47+k):=fun k hk=>by
  have h4:=congrArg (fun l=>l[k]?) hdst
  simp only[List.getElem?_map,List.getElem?_range hk,Option.map_some,Array.getElem?_toList]at h4
  cases ho:ops[k]? with
  |none=>rw[ho]at h4;cases h4
  |some o=>
   rw[ho]at h4
   exact Option.some.inj h4
 refine Nc (ok:=fun w i v=>QT (.agg #[.slice a1 n1 c1,.slice a2 n2 c2]) (.agg #[.slice b1 m1 d1,.slice b2 m2 d2]) (.agg #[.slice z1 n1 e1,.slice z2 n2 e2]) d T c ea sa w i v) (fun {w w' i v} hb h=> ?_) (n:=47) (K:=37) (by omega) hsz Om hdst hdeps rfl hlow (fun i o mid w hi ho hm hb hdp=> ?_) (fun mid W hm hb hall=>hK mid W hm hb (hall 36 (by omega)))
 ·by_cases h26:i=26
  ·subst h26
   obtain⟨vr,vi,k1,k2⟩:=h
   exact⟨vr,vi,k1,k2.bl hb⟩
  ·revert h
   unfold QT
   split
   all_goals first|exact fun h=>h|exact absurd rfl h26
 have hcases:i=0∨i=1∨i=2∨i=3∨i=4∨i=5∨i=6∨i=7∨i=8∨i=9∨i=10∨i=11∨i=12∨i=13∨i=14∨i=15∨i=16∨i=17∨i=18∨i=19∨i=20∨i=21∨i=22∨i=23∨i=24∨i=25∨i=26∨i=27∨i=28∨i=29∨i=30∨i=31∨i=32∨i=33∨i=34∨i=35∨i=36:=by omega
 rcases hcases with rfl|rfl|rfl|rfl|rfl|rfl|rfl|rfl|rfl|rfl|rfl|rfl|rfl|rfl|rfl|rfl|rfl|rfl|rfl|rfl|rfl|rfl|rfl|rfl|rfl|rfl|rfl|rfl|rfl|rfl|rfl|rfl|rfl|rfl|rfl|rfl|rfl
 all_goals
  obtain⟨hop,hgd'⟩:=hop_at _ _ _ ho rfl
  have hd:=hdp _ rfl
  clear hdp hop_at ho
 ·exact .inl ⟨Ad hgd',fun Kc hKc=>ER 3 ga _ _ _ _ _ _ hop (hF3 mid) (hga.bel' hb) (hKc _ _ rfl (Below.refl _ _))⟩
 ·exact .inl ⟨Ad hgd',fun Kc hKc=>KO 47 _ hop (hd 0 (by simp)) ((hck w hb).mono fun e w' h=>by obtain⟨k1,k2⟩:=h;exact⟨_,k1,hKc _ w' rfl k2⟩)⟩
 ·exact .inl ⟨Ad hgd',fun Kc hKc=>Dl 7 gx _ _ _ _ _ _ hop (hF7 mid) (hgx.bel' hb) (hKc _ _ rfl (Below.refl _ _))⟩
 ·exact .inl ⟨Ad hgd',fun Kc hKc=>IK 49 _ hop (hd 2 (by simp)) ((hrck w hb).mono fun e w' h=>by obtain⟨k1,k2⟩:=h;exact⟨_,k1,hKc _ w' rfl k2⟩)⟩
 ·exact .inl ⟨Ad hgd',fun Kc hKc=>JS 48 50 _ hop (hd 1 (by simp)) (hd 3 (by simp)) (hKc _ _ rfl (Below.refl _ _))⟩
 ·exact .inl ⟨Ad hgd',fun Kc hKc=>Bj 51 _ hop (hd 4 (by simp)) (hKc _ _ rfl (Below.refl _ _))⟩
 ·have hw:=AY (n:=47) hgd' (hda 5 (by omega)) (hd 5 (by simp))
  exact .inl ⟨hw,fun Kc hKc=>Bj 10 _ hop (hF10 mid) (hKc _ _ rfl (Below.refl _ _))⟩
 ·have hw:=AY (n:=47) hgd' (hda 5 (by omega)) (hd 5 (by simp))
  exact .inl ⟨hw,fun Kc hKc=>Bj 12 _ hop (hF12 mid) (hKc _ _ rfl (Below.refl _ _))⟩
 ·have hw:=AY (n:=47) hgd' (hda 5 (by omega)) (hd 5 (by simp))
  exact .inl ⟨hw,fun Kc hKc=>N4 53 54 _ hop (hd 6 (by simp)) (hd 7 (by simp)) (hKc _ _ rfl (Below.refl _ _))⟩
 ·exact .inl ⟨Ad hgd',fun Kc hKc=>DW 52 55 _ hop (hd 5 (by simp)) (hd 8 (by simp)) (hKc _ _ rfl (Below.refl _ _))⟩
 ·exact .inl ⟨Ad hgd',fun Kc hKc=>Bj 56 _ hop (hd 9 (by simp)) (hKc _ _ rfl (Below.refl _ _))⟩
 ·have hw:=AY (n:=47) hgd' (hda 10 (by omega)) (hd 10 (by simp))
  exact .inl ⟨hw,fun Kc hKc=>Bj 11 _ hop (hF11 mid) (hKc _ _ rfl (Below.refl _ _))⟩
 ·have hw:=AY (n:=47) hgd' (hda 10 (by omega)) (hd 10 (by simp))
  exact .inl ⟨hw,fun Kc hKc=>Bj 13 _ hop (hF13 mid) (hKc _ _ rfl (Below.refl _ _))⟩
 ·have hw:=AY (n:=47) hgd' (hda 10 (by omega)) (hd 10 (by simp))
  exact .inl ⟨hw,fun Kc hKc=>JS 58 59 _ hop (hd 11 (by simp)) (hd 12 (by simp)) (hKc _ _ rfl (Below.refl _ _))⟩
 ·exact .inl ⟨Ad hgd',fun Kc hKc=>DW 57 60 _ hop (hd 10 (by simp)) (hd 13 (by simp)) (hKc _ _ rfl (Below.refl _ _))⟩
 ·exact .inl ⟨Ad hgd',fun Kc hKc=>Bj 61 _ hop (hd 14 (by simp)) (hKc _ _ rfl (Below.refl _ _))⟩
 ·have hw:=AY (n:=47) hgd' (hda 15 (by omega)) (hd 15 (by simp))
  exact .inl ⟨hw,fun Kc hKc=>ER 3 ga _ _ _ _ _ _ hop (hF3 mid) (hga.bel' hb) (hKc _ _ rfl (Below.refl _ _))⟩
 ·have hw:=AY (n:=47) hgd' (hda 15 (by omega)) (hd 15 (by simp))
  exact .inl ⟨hw,fun Kc hKc=>ER 4 gb _ _ _ _ _ _ hop (hF4 mid) (hgb.bel' hb) (hKc _ _ rfl (Below.refl _ _))⟩
 ·have hw:=AY (n:=47) hgd' (hda 15 (by omega)) (hd 15 (by simp))
  exact .inl ⟨hw,fun Kc hKc=>MQ 63 64 _ _ hop (hd 16 (by simp)) (hd 17 (by simp)) ((hcs w hb).mono fun e w' h=>by obtain⟨k1,k2⟩:=h;exact⟨_,k1,hKc _ w' rfl k2⟩)⟩
 ·have hw:=AY (n:=47) hgd' (hda 15 (by omega)) (hd 15 (by simp))
  exact .inl ⟨hw,fun Kc hKc=>Dl 7 gx _ _ _ _ _ _ hop (hF7 mid) (hgx.bel' hb) (hKc _ _ rfl (Below.refl _ _))⟩
 ·have hw:=AY (n:=47) hgd' (hda 15 (by omega)) (hd 15 (by simp))
  exact .inl ⟨hw,fun Kc hKc=>Dl 8 gy _ _ _ _ _ _ hop (hF8 mid) (hgy.bel' hb) (hKc _ _ rfl (Below.refl _ _))⟩
 ·have hw:=AY (n:=47) hgd' (hda 15 (by omega)) (hd 15 (by simp))
  exact .inl ⟨hw,fun Kc hKc=>DV 66 67 _ _ hop (hd 19 (by simp)) (hd 20 (by simp)) ((hrs w hb).mono fun e w' h=>by obtain⟨k1,k2⟩:=h;exact⟨_,k1,hKc _ w' rfl k2⟩)⟩
 ·have hw:=AY (n:=47) hgd' (hda 15 (by omega)) (hd 15 (by simp))
  exact .inl ⟨hw,fun Kc hKc=>PD 65 68 T T hop (hd 18 (by simp)) (hd 21 (by simp)) (hKc _ _ (show Value.bool (T !=T)= .bool false from by simp) (Below.refl _ _))⟩
 ·exact .inl ⟨Ad hgd',fun Kc hKc=>DW 62 69 _ hop (hd 15 (by simp)) (hd 22 (by simp)) (hKc _ _ rfl (Below.refl _ _))⟩
 ·exact .inl ⟨Ad hgd',fun Kc hKc=>Bj 70 _ hop (hd 23 (by simp)) (hKc _ _ rfl (Below.refl _ _))⟩
 ·have hw:=AY (n:=47) hgd' (hda 24 (by omega)) (hd 24 (by simp))
  exact .inl ⟨hw,fun Kc hKc=>ER 3 ga _ _ _ _ _ _ hop (hF3 mid) (hga.bel' hb) (hKc _ _ rfl (Below.refl _ _))⟩
 ·have hw:=AY (n:=47) hgd' (hda 24 (by omega)) (hd 24 (by simp))
  exact .inl ⟨hw,fun Kc hKc=>MR 72 _ hop (hd 25 (by simp)) ((hcp w hb).mono fun e w' h=>by obtain⟨vr,vi,k1,k2,k3⟩:=h;exact⟨_,k1,hKc _ w' ⟨vr,vi,rfl,k2⟩ k3⟩)⟩
 ·have hw:=AY (n:=47) hgd' (hda 24 (by omega)) (hd 24 (by simp))
  exact .inl ⟨hw,fun Kc hKc=>Dl 7 gx _ _ _ _ _ _ hop (hF7 mid) (hgx.bel' hb) (hKc _ _ rfl (Below.refl _ _))⟩
 ·have hw:=AY (n:=47) hgd' (hda 24 (by omega)) (hd 24 (by simp))
  obtain⟨vr,vi,k1,k2⟩:=hd 26 (by simp)
  exact .inl ⟨hw,fun Kc hKc=>DV 73 74 _ _ hop k1 (hd 27 (by simp)) ((hrw w vr vi hb k2).mono fun e w' h=>by obtain⟨k1,k2⟩:=h;exact⟨_,k1,hKc _ w' rfl k2⟩)⟩
 ·have hw:=AY (n:=47) hgd' (hda 24 (by omega)) (hd 24 (by simp))
  exact .inl ⟨hw,fun Kc hKc=>LG 75 hop (hd 28 (by simp)) (hKc _ _ rfl (Below.refl _ _))⟩
 ·exact .inl ⟨Ad hgd',fun Kc hKc=>DW 71 76 _ hop (hd 24 (by simp)) (hd 29 (by simp)) (hKc _ _ rfl (Below.refl _ _))⟩
 ·exact .inl ⟨Ad hgd',fun Kc hKc=>Bj 77 _ hop (hd 30 (by simp)) (hKc _ _ rfl (Below.refl _ _))⟩
 ·have hw:=AY (n:=47) hgd' (hda 31 (by omega)) (hd 31 (by simp))
  exact .inl ⟨hw,fun Kc hKc=>Dl 9 gz _ _ _ _ _ _ hop (hF9 mid) (hgz.bel' hb) (hKc _ _ rfl (Below.refl _ _))⟩
 ·have hw:=AY (n:=47) hgd' (hda 31 (by omega)) (hd 31 (by simp))
  exact .inl ⟨hw,fun Kc hKc=>Dl 7 gx _ _ _ _ _ _ hop (hF7 mid) (hgx.bel' hb) (hKc _ _ rfl (Below.refl _ _))⟩
 ·have hw:=AY (n:=47) hgd' (hda 31 (by omega)) (hd 31 (by simp))
  exact .inl ⟨hw,fun Kc hKc=>DV 79 80 _ _ hop (hd 32 (by simp)) (hd 33 (by simp)) ((hrz w hb).mono fun e w' h=>by obtain⟨k1,k2⟩:=h;exact⟨_,k1,hKc _ w' rfl k2⟩)⟩
 ·have hw:=AY (n:=47) hgd' (hda 31 (by omega)) (hd 31 (by simp))
  exact .inl ⟨hw,fun Kc hKc=>LG 81 hop (hd 34 (by simp)) (hKc _ _ rfl (Below.refl _ _))⟩
 ·exact .inl ⟨Ad hgd',fun Kc hKc=>DW 78 82 _ hop (hd 31 (by simp)) (hd 35 (by simp)) (hKc _ _ rfl (Below.refl _ _))⟩
abbrev Pk (r:AK):Bool:=r.pkgs.all A9
abbrev Hq (x:AK):Bool:=decide (0≤x.prio) && decide (x.prio≤1024)
theorem Q1 {d:AA} (h:16<d.repos.length∨256<d.total):A7 d=40:=by
 unfold A7
 rw[if_pos h]
theorem Qg {d:AA} (h:¬(16<d.repos.length∨256<d.total)) (hp:d.repos.all Hq=false):A7 d=20:=by
 unfold A7
 rw[if_neg h,if_pos hp]
theorem Q2 {d:AA} (h:¬(16<d.repos.length∨256<d.total)) (hp:d.repos.all Hq=true) (hm:(d.repos.all (fun r=>r.pkgs.all A9) && d.inst.all A9)=false):A7 d=4:=by
 unfold A7
 rw[if_neg h,if_neg (by rw[hp];decide),if_pos hm]
theorem Rh {d:AA} (h:¬(16<d.repos.length∨256<d.total)) (hp:d.repos.all Hq=true) (hm:(d.repos.all (fun r=>r.pkgs.all A9) && d.inst.all A9)=true):A7 d=0:=by
 unfold A7
 rw[if_neg h,if_neg (by rw[hp];decide),if_neg (by rw[hm];decide)]
theorem FN {α:Type} {p:α→Bool} {l:List α} {k:Nat} (hk:k<l.length) (h:(l.take k).all p=true) (hx:p l[k]=true):(l.take (k+1)).all p=true:=by
 rw[List.take_succ_eq_append_getElem hk,List.all_append,h]
 simp[hx]
theorem ED (d:AA) (vr vi:Value) (w:World) (hd:AR Ai w d vr vi) (hf:d.few):Calls Tryz.prog 22 #[.agg #[vr,vi]] w fun e w'=>e= .returned (.int .i64 (A7 d))∧Below w.heap.size w w':=by
 obtain⟨ar,cr,rfl⟩:=hd.repos.form
 obtain⟨ai,ci,rfl⟩:=hd.inst.form
 obtain⟨n1,hn1⟩:∃n,n=d.repos.length:=⟨_,rfl⟩
 obtain⟨n2,hn2⟩:∃n,n=d.inst.length:=⟨_,rfl⟩
 obtain⟨T,hT⟩:∃T,T=A7 d:=⟨_,rfl⟩
 have hn1b:n1≤4611686018427387904:=hn1▸hd.repos.bound
 have htot:CR d.repos+n2≤4611686018427387904:=by rw[hn2];exact hf.t
 have hsl:=Lj d.repos
 have HD:=Hd hd
 have HFw:=Hd hf
 have HN:=Hd (And.intro hn1 hn2)
 have HT:=Hd hT
 rw[←hT,←hn1,←hn2]
 obtain⟨g,hg⟩:∃g,g=w.heap.size:=⟨_,rfl⟩
 obtain⟨W,hW⟩:∃W,W=w.alloc (.cells #[.slice ar n1 cr,.slice ai n2 ci] 55):=⟨_,rfl⟩
 have HX:=Hd (show Blk W g 55 #[.slice ar n1 cr,.slice ai n2 ci]∧Below w.heap.size w W from by rw[hW,hg];exact⟨Blk.new _ _ _,Ag _ _⟩)
 have HC:=Hd (show∀w',Below W.heap.size W w'→w'.cell? ⟨g,0,none⟩=some (.slice ar n1 cr)∧w'.cell? ⟨g,1,none⟩=some (.slice ai n2 ci)∧g<w'.heap.size from fun w' h=>⟨(HX.out.1.below h HX.out.1.lt).cell 0,(HX.out.1.below h HX.out.1.lt).cell 1,(HX.out.1.below h HX.out.1.lt).lt⟩)
 obtain⟨x0,x1,xl⟩:=HC.out W (Below.refl _ _)
 clear hd hf hn1 hn2 hT
 go_enter Tryz.func22,Tryz.ntmps22
 go_upto_region 1 with fail
 rw[←hW,←hg]
 clear hW hg
 go_wp2_with fail
 go_loopw [3,4] (fun v i wr=>∃(k:Nat),k≤n1∧i= .int .i64 k∧v= .int .i64 ((n2+CR (d.repos.take k):Nat):Int)∧Hid (wr=W)) (fun _ i _=>n1-(intOf i).toNat)
 case atStart=>exact⟨0,by omega,rfl,by simp[CR],Hd rfl⟩
 case round=>
  obtain⟨k,hk,rfl,rfl,hW⟩:=hrel
  obtain rfl:=hW.out
  clear hW
  by_cases hlt:k<n1
  ·have hki:(k:Int)<(n1:Int):=by omega
   obtain⟨b,o,r,ha,_,hcs,hh⟩:=HD.out.repos.at_ k (by have:=HN.out;omega)
   obtain⟨x,hx⟩:∃x,x=d.repos[k]'(by have:=HN.out;omega):=⟨_,rfl⟩
   rw[←hx]at hcs hh
   subst ha
   obtain⟨xa,xc,hr⟩:=hh.2.form
   have hr':(r:Value)= .slice xa x.pkgs.length xc:=hr
   subst hr'
   have hd1:=hcs.below HX.out.2
   have z1:wr.cell? ⟨b,o+k*2+1,none⟩=some (.slice xa x.pkgs.length xc):=hd1.2 1 (show 1<2 by omega)
   have zl:=hd1.1
   have hst:CR (d.repos.take (k+1))=CR (d.repos.take k)+x.pkgs.length:=by rw[hx];exact G8 (by have:=HN.out;omega)
   have hsb:=hsl (k+1)
   have HSt:=Hd hst
   have hb2:n2+CR (d.repos.take k)+x.pkgs.length≤4611686018427387904:=by omega
   have HLt:=Hd hlt
   obtain⟨m,hm⟩:∃m,m=n2+CR (d.repos.take k):=⟨_,rfl⟩
   have HMm:=Hd hm
   rw[←hm]at hb2 ⊢
   clear hcs hh hr hd1 hx hst hsb hm
   go_wp2_with fail
   go_roundw
   case rel=>exact⟨k+1,HLt.out,by go_num,by rw[HSt.out,←Nat.add_assoc,←HMm.out];go_num,trivial⟩
   case measure=>have:=HLt.out;simp[intOf];omega
  ·obtain rfl:k=n1:=by omega
   have htk:n2+CR (d.repos.take k)=d.total:=by
    rw[List.take_of_length_le (by have:=HN.out;omega),DL,←HN.out.2]
    omega
   rw[htk]
   have htt:d.total≤4611686018427387904:=HFw.out.t
   clear htk hsl
   by_cases hbig:16<d.repos.length∨256<d.total
   ·have HF:=Hd (show T=40 by rw[HT.out,Q1 hbig])
    have hbig2:((16:Int)<(k:Int))∨(decide (16<k)=false∧¬(16:Int)<(k:Int)∧(256:Int)<(d.total:Int)):=by
     have:=HN.out.1
     by_cases h:16<k
     ·exact .inl (by omega)
     ·exact .inr ⟨by simpa using h,by omega,by omega⟩
    clear hbig
    rcases hbig2 with h16|⟨h16,h16',h256⟩
    ·go_wp2_with fail
     go_ret
     exact⟨congrArg (fun x=>Ending.returned (.int .i64 x)) HF.out.symm,HX.out.2⟩
    ·go_wp2_with fail
     go_ret
     exact⟨congrArg (fun x=>Ending.returned (.int .i64 x)) HF.out.symm,HX.out.2⟩
   ·have HBig:=Hd hbig
    have h16:decide (16<k)=false:=by have:=HN.out.1;simp;omega
    have h16':¬(16:Int)<(k:Int):=by have:=HN.out.1;omega
    have h256:¬(256:Int)<(d.total:Int):=by omega
    have h256':decide (256<d.total)=false:=by simp;omega
    clear hbig
    go_wp2_with fail
    go_loopw [5] (fun i wx=>∃(j:Nat),j≤k∧i= .int .i64 j∧Hid ((d.repos.take j).all Hq=true)∧Hid (wx=wr)) (fun i _=>k-(intOf i).toNat)
    case atStart=>exact⟨0,by omega,rfl,Hd rfl,Hd rfl⟩
    case round=>
     obtain⟨j,hj,rfl,HA,hW⟩:=hrel
     obtain rfl:=hW.out
     clear hW
     by_cases hlj:j<k
     ·have hkj:(j:Int)<(k:Int):=by omega
      obtain⟨b,o,r,ha,_,hcs,hh⟩:=HD.out.repos.at_ j (by have:=HN.out;omega)
      obtain⟨x,hx⟩:∃x,x=d.repos[j]'(by have:=HN.out;omega):=⟨_,rfl⟩
      rw[←hx]at hcs hh
      subst ha
      have hd1:=hcs.below HX.out.2
      have z0:wr.cell? ⟨b,o+j*2,none⟩=some (.int .i64 x.prio):=hd1.2 0 (show 0<2 by omega)
      have zl:=hd1.1
      have HLj:=Hd hlj
      have HXx:=Hd hx
      clear hcs hh hd1 hx
      by_cases hneg:x.prio<0
      ·have HF:=Hd (show T=20 by
        rw[HT.out,Qg HBig.out (Fj (j:=j) (by have:=HN.out;have:=HLj.out;omega) (by rw[←HXx.out];simp;omega))])
       go_wp2_with fail
       go_ret
       exact⟨congrArg (fun x=>Ending.returned (.int .i64 x)) HF.out.symm,HX.out.2⟩
      ·have hneg':decide (x.prio<0)=false:=by simpa using hneg
       by_cases hup:1024<x.prio
       ·have HF:=Hd (show T=20 by
         rw[HT.out,Qg HBig.out (Fj (j:=j) (by have:=HN.out;have:=HLj.out;omega) (by rw[←HXx.out];simp;omega))])
        go_wp2_with fail
        go_ret
        exact⟨congrArg (fun x=>Ending.returned (.int .i64 x)) HF.out.symm,HX.out.2⟩
       ·have hup':decide (1024<x.prio)=false:=by simpa using hup
        have HA2:=Hd (FN (p:=Hq) (l:=d.repos) (k:=j) (by have:=HN.out;have:=HLj.out;omega) HA.out (by rw[←HXx.out];simp;omega))
        go_wp2_with fail
        go_roundw
        case rel=>exact⟨j+1,HLj.out,by go_num,HA2,trivial⟩
        case measure=>have:=HLj.out;simp[intOf];omega
     ·obtain rfl:k=j:=by omega
      have HPr:=Hd (show d.repos.all Hq=true by
       have h:=HA.out
       rwa [List.take_of_length_le (by have:=HN.out;omega)]at h)
      clear HA
      go_wp2_with fail
      clear x0 x1 xl
      go_loopw [6] (fun i wx=>∃(j:Nat),j≤k∧i= .int .i64 j∧Hid ((d.repos.take j).all Pk=true∧Below wr.heap.size wr wx)) (fun i _=>k-(intOf i).toNat)
      case atStart=>exact⟨0,by omega,rfl,Hd ⟨rfl,Below.refl _ _⟩⟩
      case round=>
       obtain⟨j,hj,rfl,HA⟩:=hrel
       obtain⟨x0,x1,xl⟩:=HC.out _ HA.out.2
       by_cases hlj:j<k
       ·have hkj:(j:Int)<(k:Int):=by omega
        obtain⟨b,o,r,ha,_,hcs,hh⟩:=HD.out.repos.at_ j (by have:=HN.out;omega)
        obtain⟨x,hx⟩:∃x,x=d.repos[j]'(by have:=HN.out;omega):=⟨_,rfl⟩
        have HMem:=Hd (show x∈d.repos from hx▸List.getElem_mem _)
        rw[←hx]at hcs hh
        subst ha
        obtain⟨xa,xc,hr⟩:=hh.2.form
        have hr':(r:Value)= .slice xa x.pkgs.length xc:=hr
        subst hr'
        obtain⟨np,hnp⟩:∃np,np=x.pkgs.length:=⟨_,rfl⟩
        have hnb:np≤4611686018427387904:=hnp▸hh.2.bound
        have HZ:=Hd (show∀w',Below w.heap.size w w'→w'.cell? ⟨b,o+j*2+1,none⟩=some (.slice xa np xc)∧b<w'.heap.size from fun w' h=>⟨by rw[hnp];exact(hcs.below h).2 1 (show 1<2 by omega),(hcs.below h).1⟩)
        have HH:=Hd hh.2
        have HNp:=Hd hnp
        have HLj:=Hd hlj
        have HXx:=Hd hx
        obtain⟨z1,zl⟩:=HZ.out _ (Aa HX.out.2 HA.out.2)
        clear hcs hh hr hx hnp
        go_wp2_with fail
        clear x0 x1 xl z1 zl
        go_loopw [7] (fun i wy=>∃(m:Nat),m≤np∧i= .int .i64 m∧Hid ((x.pkgs.take m).all A9=true∧Below wr.heap.size wr wy)) (fun i _=>np-(intOf i).toNat)
        case atStart=>exact⟨0,by omega,rfl,Hd ⟨rfl,Below.refl _ _⟩⟩
        case round=>
         obtain⟨m,hm,rfl,HB⟩:=hrel
         have HBw:=Hd (Aa (Aa HX.out.2 HA.out.2) HB.out.2)
         obtain⟨z1,zl⟩:=HZ.out _ HBw.out
         obtain⟨x0,x1,xl⟩:=HC.out _ (Aa HA.out.2 HB.out.2)
         by_cases hlm:m<np
         ·have hmi:(m:Int)<(np:Int):=by omega
          obtain⟨b2,o2,rp,ha2,_,hcs,hh⟩:=HH.out.at_ m (by have:=HNp.out;omega)
          obtain⟨p,hp⟩:∃p,p=x.pkgs[m]'(by have:=HNp.out;omega):=⟨_,rfl⟩
          rw[←hp]at hcs hh
          subst ha2
          have hc2:=hcs.below HBw.out
          have hfw:=HFw.out.r x HMem.out p (hp▸List.getElem_mem _)
          have HPx:=Hd hp
          have HLm:=Hd hlm
          obtain⟨⟨q1,q2,q3,e1⟩,⟨q4,q5,q6,e2⟩,⟨q7,q8,q9,e3⟩,⟨q10,q11,q12,e4⟩,⟨q13,q14,q15,e5⟩,⟨q16,q17,q18,e6⟩,⟨q19,q20,q21,e7⟩,⟨q22,q23,q24,e8⟩,⟨q25,q26,q27,e9⟩⟩:=(Ah.forms hh)
          rcases rp with ⟨r0,r1,r2,r3,r4,r5,r6,r7,r8⟩
          try dsimp only at e1 e2 e3 e4 e5 e6 e7 e8 e9
          subst e1 e2 e3 e4 e5 e6 e7 e8 e9
          have y0:wr.cell? ⟨b2,o2+m*15,none⟩=some (.string p.name):=hc2.2 0 (show 0<15 by omega)
          have y1:wr.cell? ⟨b2,o2+m*15+1,none⟩=some (.int .i64 p.ep):=hc2.2 1 (show 1<15 by omega)
          have y2:wr.cell? ⟨b2,o2+m*15+2,none⟩=some (.string p.ver):=hc2.2 2 (show 2<15 by omega)
          have y3:wr.cell? ⟨b2,o2+m*15+3,none⟩=some (.string p.rel):=hc2.2 3 (show 3<15 by omega)
          have y4:wr.cell? ⟨b2,o2+m*15+4,none⟩=some (.int .u8 p.arch):=hc2.2 4 (show 4<15 by omega)
          have y5:wr.cell? ⟨b2,o2+m*15+5,none⟩=some (.string p.vendor):=hc2.2 5 (show 5<15 by omega)
          have y6:wr.cell? ⟨b2,o2+m*15+6,none⟩=some (.slice q1 q2 q3):=hc2.2 6 (show 6<15 by omega)
          have y7:wr.cell? ⟨b2,o2+m*15+7,none⟩=some (.slice q4 q5 q6):=hc2.2 7 (show 7<15 by omega)
          have y8:wr.cell? ⟨b2,o2+m*15+8,none⟩=some (.slice q7 q8 q9):=hc2.2 8 (show 8<15 by omega)
          have y9:wr.cell? ⟨b2,o2+m*15+9,none⟩=some (.slice q10 q11 q12):=hc2.2 9 (show 9<15 by omega)
          have y10:wr.cell? ⟨b2,o2+m*15+10,none⟩=some (.slice q13 q14 q15):=hc2.2 10 (show 10<15 by omega)
          have y11:wr.cell? ⟨b2,o2+m*15+11,none⟩=some (.slice q16 q17 q18):=hc2.2 11 (show 11<15 by omega)
          have y12:wr.cell? ⟨b2,o2+m*15+12,none⟩=some (.slice q19 q20 q21):=hc2.2 12 (show 12<15 by omega)
          have y13:wr.cell? ⟨b2,o2+m*15+13,none⟩=some (.slice q22 q23 q24):=hc2.2 13 (show 13<15 by omega)
          have y14:wr.cell? ⟨b2,o2+m*15+14,none⟩=some (.slice q25 q26 q27):=hc2.2 14 (show 14<15 by omega)
          have yl:=hc2.1
          have HM:=Hd (show Calls Tryz.prog 49 #[.agg #[.string p.name,.int .i64 p.ep,.string p.ver,.string p.rel,.int .u8 p.arch,.string p.vendor,.slice q1 q2 q3,.slice q4 q5 q6,.slice q7 q8 q9,.slice q10 q11 q12,.slice q13 q14 q15,.slice q16 q17 q18,.slice q19 q20 q21,.slice q22 q23 q24,.slice q25 q26 q27]] wr fun e w'=>e= .returned (.bool (A9 p))∧Below wr.heap.size wr w' from Ej p ⟨.slice q1 q2 q3,.slice q4 q5 q6,.slice q7 q8 q9,.slice q10 q11 q12,.slice q13 q14 q15,.slice q16 q17 q18,.slice q19 q20 q21,.slice q22 q23 q24,.slice q25 q26 q27⟩ wr (Ah.keep (B':=Ai) (show Ah Ai w p ⟨.slice q1 q2 q3,.slice q4 q5 q6,.slice q7 q8 q9,.slice q10 q11 q12,.slice q13 q14 q15,.slice q16 q17 q18,.slice q19 q20 q21,.slice q22 q23 q24,.slice q25 q26 q27⟩from hh) HBw.out.size fun b _ h2=>⟨HBw.out.block b h2,trivial⟩) hfw)
          clear hcs hh hc2 hfw hp
          by_cases hmy:A9 p=true
          ·have HT2:=Hd (FN (p:=A9) (l:=x.pkgs) (k:=m) (by have:=HNp.out;have:=HLm.out;omega) HB.out.1 (by rw[←HPx.out];exact hmy))
           go_wp2_with (first
            |(go_at_call 49;(with_reducible refine HM.out.mono ?_);rintro e w1 ⟨rfl,hb1⟩;have HB1:=Hd hb1;clear hb1)
            |fail)
           go_roundw
           case rel=>exact⟨m+1,HLm.out,by go_num,Hd ⟨HT2.out,Aa HB.out.2 HB1.out⟩⟩
           case measure=>have:=HLm.out;simp[intOf];omega
          ·have hmf:A9 p=false:=by simpa using hmy
           have HF:=Hd (show T=4 by
            have hxn:x.pkgs.all A9=false:=Fj (j:=m) (by have:=HNp.out;have:=HLm.out;omega) (by rw[←HPx.out];exact hmf)
            rw[HT.out,Q2 HBig.out HPr.out (by rw[Fj (p:=Pk) (j:=j) (by have:=HN.out;have:=HLj.out;omega) (by rw[←HXx.out];exact hxn)];rfl)])
           clear hmy
           go_wp2_with (first
            |(go_at_call 49;(with_reducible refine HM.out.mono ?_);rintro e w1 ⟨rfl,hb1⟩;have HB1:=Hd hb1;clear hb1)
            |fail)
           go_ret
           exact⟨congrArg (fun x=>Ending.returned (.int .i64 x)) HF.out.symm,Aa HBw.out HB1.out⟩
         ·obtain rfl:m=np:=by omega
          have HT2:=Hd (FN (p:=Pk) (l:=d.repos) (k:=j) (by have:=HN.out;have:=HLj.out;omega) HA.out.1 (by
           rw[←HXx.out]
           have h:=HB.out.1
           rwa [List.take_of_length_le (by have:=HNp.out;omega)]at h))
          go_wp2_with fail
          go_roundw
          case rel=>exact⟨j+1,HLj.out,by go_num,Hd ⟨HT2.out,Aa HA.out.2 HB.out.2⟩⟩
          case measure=>have:=HLj.out;simp[intOf];omega
       ·obtain rfl:k=j:=by omega
        have HQr:=Hd (show d.repos.all Pk=true by
         have h:=HA.out.1
         rwa [List.take_of_length_le (by have:=HN.out;omega)]at h)
        have hn2b:n2≤4611686018427387904:=by have:=HN.out.2;have:=HD.out.inst.bound;omega
        go_wp2_with fail
        clear x0 x1 xl
        go_loopw [8] (fun i wy=>∃(m:Nat),m≤n2∧i= .int .i64 m∧Hid ((d.inst.take m).all A9=true∧Below wr.heap.size wr wy)) (fun i _=>n2-(intOf i).toNat)
        case atStart=>exact⟨0,by omega,rfl,Hd ⟨rfl,Below.refl _ _⟩⟩
        case round=>
         obtain⟨m,hm,rfl,HB⟩:=hrel
         have HBw:=Hd (Aa (Aa HX.out.2 HA.out.2) HB.out.2)
         obtain⟨x0,x1,xl⟩:=HC.out _ (Aa HA.out.2 HB.out.2)
         by_cases hlm:m<n2
         ·have hmi:(m:Int)<(n2:Int):=by omega
          obtain⟨b2,o2,rp,ha2,_,hcs,hh⟩:=HD.out.inst.at_ m (by have:=HN.out;omega)
          obtain⟨p,hp⟩:∃p,p=d.inst[m]'(by have:=HN.out;omega):=⟨_,rfl⟩
          rw[←hp]at hcs hh
          subst ha2
          have hc2:=hcs.below HBw.out
          have hfw:=HFw.out.i p (hp▸List.getElem_mem _)
          have HPx:=Hd hp
          have HLm:=Hd hlm
          obtain⟨⟨q1,q2,q3,e1⟩,⟨q4,q5,q6,e2⟩,⟨q7,q8,q9,e3⟩,⟨q10,q11,q12,e4⟩,⟨q13,q14,q15,e5⟩,⟨q16,q17,q18,e6⟩,⟨q19,q20,q21,e7⟩,⟨q22,q23,q24,e8⟩,⟨q25,q26,q27,e9⟩⟩:=(Ah.forms hh)
          rcases rp with ⟨r0,r1,r2,r3,r4,r5,r6,r7,r8⟩
          try dsimp only at e1 e2 e3 e4 e5 e6 e7 e8 e9
          subst e1 e2 e3 e4 e5 e6 e7 e8 e9
          have y0:wr.cell? ⟨b2,o2+m*15,none⟩=some (.string p.name):=hc2.2 0 (show 0<15 by omega)
          have y1:wr.cell? ⟨b2,o2+m*15+1,none⟩=some (.int .i64 p.ep):=hc2.2 1 (show 1<15 by omega)
          have y2:wr.cell? ⟨b2,o2+m*15+2,none⟩=some (.string p.ver):=hc2.2 2 (show 2<15 by omega)
          have y3:wr.cell? ⟨b2,o2+m*15+3,none⟩=some (.string p.rel):=hc2.2 3 (show 3<15 by omega)
          have y4:wr.cell? ⟨b2,o2+m*15+4,none⟩=some (.int .u8 p.arch):=hc2.2 4 (show 4<15 by omega)
          have y5:wr.cell? ⟨b2,o2+m*15+5,none⟩=some (.string p.vendor):=hc2.2 5 (show 5<15 by omega)
          have y6:wr.cell? ⟨b2,o2+m*15+6,none⟩=some (.slice q1 q2 q3):=hc2.2 6 (show 6<15 by omega)
          have y7:wr.cell? ⟨b2,o2+m*15+7,none⟩=some (.slice q4 q5 q6):=hc2.2 7 (show 7<15 by omega)
          have y8:wr.cell? ⟨b2,o2+m*15+8,none⟩=some (.slice q7 q8 q9):=hc2.2 8 (show 8<15 by omega)
          have y9:wr.cell? ⟨b2,o2+m*15+9,none⟩=some (.slice q10 q11 q12):=hc2.2 9 (show 9<15 by omega)
          have y10:wr.cell? ⟨b2,o2+m*15+10,none⟩=some (.slice q13 q14 q15):=hc2.2 10 (show 10<15 by omega)
          have y11:wr.cell? ⟨b2,o2+m*15+11,none⟩=some (.slice q16 q17 q18):=hc2.2 11 (show 11<15 by omega)
          have y12:wr.cell? ⟨b2,o2+m*15+12,none⟩=some (.slice q19 q20 q21):=hc2.2 12 (show 12<15 by omega)
          have y13:wr.cell? ⟨b2,o2+m*15+13,none⟩=some (.slice q22 q23 q24):=hc2.2 13 (show 13<15 by omega)
          have y14:wr.cell? ⟨b2,o2+m*15+14,none⟩=some (.slice q25 q26 q27):=hc2.2 14 (show 14<15 by omega)
          have yl:=hc2.1
          have HM:=Hd (show Calls Tryz.prog 49 #[.agg #[.string p.name,.int .i64 p.ep,.string p.ver,.string p.rel,.int .u8 p.arch,.string p.vendor,.slice q1 q2 q3,.slice q4 q5 q6,.slice q7 q8 q9,.slice q10 q11 q12,.slice q13 q14 q15,.slice q16 q17 q18,.slice q19 q20 q21,.slice q22 q23 q24,.slice q25 q26 q27]] wr fun e w'=>e= .returned (.bool (A9 p))∧Below wr.heap.size wr w' from Ej p ⟨.slice q1 q2 q3,.slice q4 q5 q6,.slice q7 q8 q9,.slice q10 q11 q12,.slice q13 q14 q15,.slice q16 q17 q18,.slice q19 q20 q21,.slice q22 q23 q24,.slice q25 q26 q27⟩ wr (Ah.keep (B':=Ai) (show Ah Ai w p ⟨.slice q1 q2 q3,.slice q4 q5 q6,.slice q7 q8 q9,.slice q10 q11 q12,.slice q13 q14 q15,.slice q16 q17 q18,.slice q19 q20 q21,.slice q22 q23 q24,.slice q25 q26 q27⟩from hh) HBw.out.size fun b _ h2=>⟨HBw.out.block b h2,trivial⟩) hfw)
          clear hcs hh hc2 hfw hp
          by_cases hmy:A9 p=true
          ·have HT2:=Hd (FN (p:=A9) (l:=d.inst) (k:=m) (by have:=HN.out;have:=HLm.out;omega) HB.out.1 (by rw[←HPx.out];exact hmy))
           go_wp2_with (first
            |(go_at_call 49;(with_reducible refine HM.out.mono ?_);rintro e w1 ⟨rfl,hb1⟩;have HB1:=Hd hb1;clear hb1)
            |fail)
           go_roundw
           case rel=>exact⟨m+1,HLm.out,by go_num,Hd ⟨HT2.out,Aa HB.out.2 HB1.out⟩⟩
           case measure=>have:=HLm.out;simp[intOf];omega
          ·have hmf:A9 p=false:=by simpa using hmy
           have HF:=Hd (show T=4 by
            rw[HT.out,Q2 HBig.out HPr.out (by rw[Fj (l:=d.inst) (p:=A9) (j:=m) (by have:=HN.out;have:=HLm.out;omega) (by rw[←HPx.out];exact hmf)];exact Bool.and_false _)])
           clear hmy
           go_wp2_with (first
            |(go_at_call 49;(with_reducible refine HM.out.mono ?_);rintro e w1 ⟨rfl,hb1⟩;have HB1:=Hd hb1;clear hb1)
            |fail)
           go_ret
           exact⟨congrArg (fun x=>Ending.returned (.int .i64 x)) HF.out.symm,Aa HBw.out HB1.out⟩
         ·obtain rfl:m=n2:=by omega
          have HF:=Hd (show T=0 by
           have h:=HB.out.1
           rw[List.take_of_length_le (by have:=HN.out;omega)]at h
           rw[HT.out,Rh HBig.out HPr.out (by rw[h,Bool.and_true];exact HQr.out)])
          go_wp2_with fail
          go_ret
          exact⟨congrArg (fun x=>Ending.returned (.int .i64 x)) HF.out.symm,HBw.out⟩
end Go.Proofs.YtdpjjnbelgaagaaGreatDoor
