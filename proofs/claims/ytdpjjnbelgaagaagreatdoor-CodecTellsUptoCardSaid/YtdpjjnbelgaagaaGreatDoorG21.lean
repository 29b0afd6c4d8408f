/- The document's reader: Decode. Conditions: as each theorem names them. -/
import Derived.Test.YtdpjjnbelgaagaaGreatDoorG20
import Derived.Test.YtdpjjnbelgaagaaGreatDoorG06
import Derived.Test.YtdpjjnbelgaagaaGreatDoorG18
import Derived.Test.YtdpjjnbelgaagaaGreatDoorG19
namespace Go.Proofs.YtdpjjnbelgaagaaGreatDoor
set_option maxHeartbeats 32000000
open Go.ChangeShapes Go.WideShapes Go.ChangeAt Go.RowKit Go.Deep
set_option maxRecDepth 100000
theorem GY (s:ByteArray) (w:World):Calls Tryz.prog 26 #[.string s] w fun ret w'=>Below w.heap.size w w'∧Cz s w.heap.size ret w':=by
 obtain⟨b,hbe⟩:∃b,b=w.heap.size:=⟨_,rfl⟩
 obtain⟨w1,hw1⟩:∃w1,w1=w.alloc (.cells #[.slice none 0 0,.slice none 0 0] 55):=⟨_,rfl⟩
 have hb1:Below w.heap.size w w1:=by rw[hw1];exact Ag _ _
 have hx1:Blk w1 b 55 #[.slice none 0 0,.slice none 0 0]:=by rw[hw1,hbe];exact Blk.new _ _ _
 have HS1:=Hd (show Below w.heap.size w w1∧Blk w1 b 55 #[.slice none 0 0,.slice none 0 0]∧w1.heap.size=b+1∧w.heap.size=b from⟨hb1,hx1,by rw[hw1,hbe];simp,hbe.symm⟩)
 clear hb1 hx1
 by_cases hlong:4194304<s.size
 ·have HN:=Hd (Oi s w1 hlong)
  have HD:=Hd (H8 hlong)
  have z0:=HS1.out.2.1.cell 0
  have z1:=HS1.out.2.1.cell 1
  have f0:=HS1.out.2.1.frozen 0
  have f1:=HS1.out.2.1.frozen 1
  have zl:=HS1.out.2.1.lt
  clear hlong
  go_enter Tryz.func26,Tryz.ntmps26
  go_upto_region 1 with fail
  rw[←hw1,←hbe]
  have HG:=Hd hbe
  clear hw1 hbe
  go_wp2_with (first
   |(go_at_call 56;(with_reducible refine HN.out.mono ?_);rintro rr w2 ⟨rfl,rfl⟩)
   |fail)
  have q1:=(HS1.out.2.1.set_ 0 nV).set_ 1 nV
  refine bodyPost_ret (Bd rfl _ _ b 55 _ (0,0) _ rfl q1 Tryz.underlying55 rfl (by kernel_rfl)) rfl ⟨?_,?_⟩
  ·exact(HS1.out.1.setCell (p:=⟨b,0,none⟩) (by show _≤b;rw[HS1.out.2.2.2];exact Nat.le_refl _) _).setCell (p:=⟨b,1,none⟩) (by show _≤b;rw[HS1.out.2.2.2];exact Nat.le_refl _) _
  ·unfold Cz
   rw[HD.out]
   exact rfl
 have HN:=Hd (Oj s w1 (by omega))
 have HLg:=Hd hlong
 obtain⟨g,hg⟩:∃g,g=w1.heap.size:=⟨_,rfl⟩
 rw[←hg]at HN
 have HG:=Hd hg
 clear hlong hg
 obtain⟨iP,hiP,hp0,hp1,hp2⟩:=NO
 obtain⟨iR,hiR,hr0,hr1,hr2⟩:=Qa
 go_enter Tryz.func26,Tryz.ntmps26
 go_upto_region 1 with fail
 rw[←hw1,←hbe]
 have HBe:=Hd hbe
 clear hw1 hbe
 go_upto_region 5 with (first
  |(go_at_call 56;(with_reducible refine HN.out.mono ?_);rintro rr w2 ⟨rfl,hr2,hb2⟩;have HS2:=Hd (show DR g s 0 0 w2∧Below w1.heap.size w1 w2 from⟨hr2,HG.out▸hb2⟩);clear hr2 hb2)
  |fail)
 obtain⟨bd,hbd⟩:∃bd,bd=w2.heap.size:=⟨_,rfl⟩
 obtain⟨w3,hw3⟩:∃w3,w3=w2.alloc (.cells #[.slice none 0 0,.slice none 0 0] 55):=⟨_,rfl⟩
 have HS3:=Hd (show DR g s 0 0 w3∧Blk w3 b 55 #[.slice none 0 0,.slice none 0 0]∧Blk w3 bd 55 #[.slice none 0 0,.slice none 0 0]∧Below w.heap.size w w3∧(w.heap.size=b∧b<g∧g<bd∧bd<w3.heap.size)from by
  have hb3:Below w2.heap.size w2 w3:=by rw[hw3];exact Ag _ _
  have k1:=HS1.out.2.2.1
  have k2:=HS1.out.2.2.2
  have k3:=HG.out
  have k4:=HS2.out.2.size
  have k5:=HS2.out.1.rb.lt
  refine⟨HS2.out.1.below hb3,(HS1.out.2.1.below HS2.out.2 HS1.out.2.1.lt).below hb3 (by omega),by rw[hbd,hw3];exact Blk.new _ _ _,Aa HS1.out.1 (Aa HS2.out.2 hb3),k2,by omega,by omega,by rw[hw3,hbd];simp⟩)
 rw[←hw3,←hbd]
 clear hw3 hbd HN HS2
 have HC:=Hd (DE HS3.out.1 0 16 (by decide))
 go_wp2_with (first
  |(go_at_call 57;(with_reducible refine HC.out.mono ?_);rintro rr ws ⟨n,a1,e1,rfl,hn,hs,hr,ht,hl7,hz7⟩;have HB0:=Hd (show BS ws bd 55 #[.slice none 0 0,.slice none 0 0] g s a1 e1 ws from BS.start hs (HS3.out.2.2.1.touch ht (by have:=HS3.out.2.2.2.2;omega)) (by have:=HS3.out.2.2.2.2;omega));have HBl:=Hd (show Below w.heap.size w ws∧Blk ws b 55 #[.slice none 0 0,.slice none 0 0]∧w.heap.size=b∧b<g∧g<bd∧bd<ws.heap.size∧n≤16 from⟨HS3.out.2.2.2.1.trans (ht.below (by have:=HS3.out.2.2.2.2;omega) (by have:=HS3.out.2.2.2.2;omega)),HS3.out.2.1.touch ht (by have:=HS3.out.2.2.2.2;omega),by have:=HS3.out.2.2.2.2;omega,by have:=HS3.out.2.2.2.2;omega,by have:=HS3.out.2.2.2.2;omega,by have:=HS3.out.2.2.2.2;have:=ht.size;omega,by omega⟩);have HD0:=Hd (IX.start hr);clear hs hr ht hl7 hz7 hn)
  |fail)
 clear HC HS3
 go_loopw [8,10] (fun lf i wo=>∃(j m:Nat) (l:List AK) (ao:Option Addr) (cp a:Nat) (eo:Int),j≤n∧i= .int .i64 j∧lf= .int .i64 m∧m≤256∧l.length=j∧Hid (BS ws bd 55 #[.slice ao j cp,.slice none 0 0] g s a eo wo∧Acc Az 38 ws.heap.size wo l (.slice ao j cp)∧IX s 0 0 n j m l a eo)) (fun _ i _=>n-(intOf i).toNat)
 case atStart=>exact⟨0,256,[],none,0,a1,e1,by omega,rfl,rfl,by omega,rfl,Hd ⟨HB0.out,Acc.nil _ _ _ _,HD0.out⟩⟩
 case round=>
  clear HB0 HD0
  obtain⟨wo,rfl⟩:∃wo,wo=wr:=⟨wr,rfl⟩
  obtain⟨j,m,l,ao,cp,a,eo,hj,rfl,rfl,hm,hl,HQ⟩:=hrel
  have HLe:=Hd hl
  clear hl
  have c2:wo.cell? ⟨g,2,none⟩=some (.int .i64 eo):=HQ.out.1.ds.rb.cell 2
  have cl:=HQ.out.1.ds.rb.lt
  by_cases hgo:j<n∧eo=0
  ·obtain⟨hlt,rfl⟩:=hgo
   have hj9:j<16:=by have:=HBl.out;omega
   have hji:(j:Int)<(n:Int):=by omega
   have HLj:=Hd hlt
   have HC:=Hd (DE HQ.out.1.ds 0 1024 (by decide))
   clear hlt
   go_upto_region 11 with (first
    |(go_at_call 57;(with_reducible refine HC.out.mono ?_);rintro rr w2 ⟨pr,a2,e2,rfl,hpr,hs2,hr2,ht2,hl2,hz2⟩;have HA2:=Hd (And.intro hpr (And.intro hs2 (And.intro hr2 ht2)));clear hpr hs2 hr2 ht2 hl2 hz2)
    |fail)
   obtain⟨bx,hbx⟩:∃bx,bx=w2.heap.size:=⟨_,rfl⟩
   obtain⟨w3,hw3⟩:∃w3,w3=w2.alloc (.cells #[.int .i64 pr,.slice none 0 0] 38):=⟨_,rfl⟩
   have HA3:=Hd (show DR g s a2 e2 w3∧Blk w3 bx 38 #[.int .i64 pr,.slice none 0 0]∧Ae (·=g) wo w3∧wo.heap.size≤bx from by
    have k1:=HA2.out.2.2.2.size
    rw[hw3,hbx]
    exact⟨HA2.out.2.1.below (Ag _ _),Blk.new w2 38 _,HA2.out.2.2.2.trans (Ae.of_below (Ag _ _) (·=g)) fun _ _ h=>h,k1⟩)
   rw[←hw3,←hbx]
   clear hw3 hbx HC
   have HC:=Hd (DE HA3.out.1 0 (m:Int) (by omega))
   go_wp2_with (first
    |(go_at_call 57;(with_reducible refine HC.out.mono ?_);rintro rr wn ⟨n2,a4,e4,rfl,hn2,hs4,hr4,ht4,hl4,hz4⟩;have HB4:=Hd (BS.start hs4 (HA3.out.2.1.touch ht4 (by have:=HA3.out.2.2.2;have:=HQ.out.1.ds.rb.lt;omega)) (by have:=HA3.out.2.2.2;have:=HQ.out.1.ds.rb.lt;omega));have HT4:=Hd (show Ae (·=g) wo wn∧wo.heap.size≤bx∧n2≤m from⟨HA3.out.2.2.1.trans ht4 fun _ _ h=>h,HA3.out.2.2.2,by omega⟩);have HD4:=Hd (DGo.start (p:=Iz) hr4);clear hn2 hs4 hr4 ht4 hl4 hz4)
    |fail)
   clear HC HA3
   go_loopw [13] (fun i wr=>∃(k:Nat) (q:List Aq) (ap:Option Addr) (cq ai:Nat) (ei:Int),k≤n2∧i= .int .i64 k∧q.length=k∧Hid (BS wn bx 38 #[.int .i64 pr,.slice ap k cq] g s ai ei wr∧Acc AN 29 wn.heap.size wr q (.slice ap k cq)∧DGo Iz 0 (m:Int) s a2 e2 n2 k q ai ei)) (fun i _=>n2-(intOf i).toNat)
   case atStart=>exact⟨0,[],none,0,a4,e4,by omega,rfl,rfl,Hd ⟨HB4.out,Acc.nil _ _ _ _,HD4.out⟩⟩
   case round=>
    clear HB4 HD4
    obtain⟨k,q,ap,cq,ai,ei,hk,rfl,hq,HI⟩:=hrel
    have HLq:=Hd hq
    clear hq
    have c2:wr.cell? ⟨g,2,none⟩=some (.int .i64 ei):=HI.out.1.ds.rb.cell 2
    have cl:=HI.out.1.ds.rb.lt
    have y1:wr.cell? ⟨bx,1,none⟩=some (.slice ap k cq):=HI.out.1.rx.cell 1
    have yf1:wr.frozen? ⟨bx,1,none⟩=false:=HI.out.1.rx.frozen 1
    have yl:=HI.out.1.rx.lt
    by_cases hgi:k<n2∧ei=0
    ·obtain⟨hlt,rfl⟩:=hgi
     have hki:(k:Int)<(n2:Int):=by omega
     have hk9:k<256:=by
      have:=HT4.out.2.2
      omega
     have HLt:=Hd hlt
     have HM:=Hd (fun w' (hb:Below wr.heap.size wr w')=>DC (HI.out.1.ds.below hb))
     obtain⟨xs,hown,hone⟩:=HI.out.2.1.own
     rw[HLq.out]at hown
     have HO4:=Hd hown
     have HN4:=Hd hone
     have HLo:=Hd (show∀b',(Value.slice ap k cq).ownBlock=some b'→wn.heap.size≤b'∧b'<wr.heap.size from fun b' hq=>by
      obtain⟨ps,_,h2,h3,_⟩:=HI.out.2.1.ex
      exact⟨h3 b' hq,h2.lt b' hq⟩)
     have HGt:=Hd (show g<wn.heap.size∧wn.heap.size≤wr.heap.size∧bx<wn.heap.size from⟨HI.out.1.lo.1,HI.out.1.tt.size,HI.out.1.lo.2.1⟩)
     have HDr:=Hd (show Below wr.heap.size wr wr.drew from(Below.refl _ wr).drew)
     have q5:wr.drew.cell? ⟨bx,1,none⟩=some (.slice ap k cq):=y1
     clear hown hone hlt
     go_upto_region 15 with fail
     rw[show Op.load 36 (Operand.tmp 58)=ldP 58 from rfl]
     go_region_held3 (fun _=>True) (exact trivial)
      ((first
        |(go_at_call 58;(with_reducible refine(HM.out _ HDr.out).mono ?_);rintro rr w6 ⟨x,r,a6,e6,rfl,hin,hs6,hr6,ht6⟩;have HX8:=Hd ((HI.out.1.below HDr.out).call hs6 ht6);have HT8:=Hd ((Ae.of_below HDr.out (·=g)).trans ht6 fun _ _ h=>h);have HG8:=Hd (HI.out.2.2.step HLt.out hr6);have hfm:=hin.forms;have HP6:=Hd (show Ah (Am wr.heap.size) w6 x r from hin);clear hin hs6 hr6 ht6;obtain⟨⟨y1,y2,y3,e1⟩,⟨y4,y5,y6,e2⟩,⟨y7,y8,y9,e3⟩,⟨y10,y11,y12,e4⟩,⟨y13,y14,y15,e5⟩,⟨y16,y17,y18,e6⟩,⟨y19,y20,y21,e7⟩,⟨y22,y23,y24,e8⟩,⟨y25,y26,y27,e9⟩⟩:=hfm;rcases r with ⟨s0,s1,s2,s3,s4,s5,s6,s7,s8⟩;dsimp only at e1 e2 e3 e4 e5 e6 e7 e8 e9;subst e1 e2 e3 e4 e5 e6 e7 e8 e9;have q6:w6.cell? ⟨bx,1,none⟩=some (.slice ap k cq):=HX8.out.rx.cell 1;have q7:(w6.alloc (.cells #[.string x.name,.int .i64 x.ep,.string x.ver,.string x.rel,.int .u8 x.arch,.string x.vendor,.slice y1 y2 y3,.slice y4 y5 y6,.slice y7 y8 y9,.slice y10 y11 y12,.slice y13 y14 y15,.slice y16 y17 y18,.slice y19 y20 y21,.slice y22 y23 y24,.slice y25 y26 y27] 29)).cell? ⟨bx,1,none⟩=some (.slice ap k cq):=(HX8.out.below (Ag _ _)).rx.cell 1)
        |(refine BI _ (by rfl) (.tmp 59) (.tmp 62) _ _ (by rfl) 29 iP _ 15 296 Tryz.underlying36 hiP hp0 hp1 hp2 rfl (by omega) (.slice ap k cq) k xs (by rfl) ((HO4.out.touch HT8.out fun b' hq hg=>by have:=(HLo.out b' hq).1;have:=HGt.out;omega).alloc _) HN4.out (.slice (some ⟨w6.heap.size,0,none⟩) 1 1) 1 (CC x ⟨.slice y1 y2 y3,.slice y4 y5 y6,.slice y7 y8 y9,.slice y10 y11 y12,.slice y13 y14 y15,.slice y16 y17 y18,.slice y19 y20 y21,.slice y22 y23 y24,.slice y25 y26 y27⟩) (by rfl) (FO w6 x ⟨.slice y1 y2 y3,.slice y4 y5 y6,.slice y7 y8 y9,.slice y10 y11 y12,.slice y13 y14 y15,.slice y16 y17 y18,.slice y19 y20 y21,.slice y22 y23 y24,.slice y25 y26 y27⟩ (AN.one (x:=x) (r:=⟨.slice y1 y2 y3,.slice y4 y5 y6,.slice y7 y8 y9,.slice y10 y11 y12,.slice y13 y14 y15,.slice y16 y17 y18,.slice y19 y20 y21,.slice y22 y23 y24,.slice y25 y26 y27⟩) HP6.out)) (by simp only[maxLen];omega) (by omega) ?_;intro ao2 cap2 w10 hn2 hm2 hown2 hg2 hat2 hlt2;have HP:=Hd (BS.push (K:=AN) (x:=x) (r:=⟨.slice y1 y2 y3,.slice y4 y5 y6,.slice y7 y8 y9,.slice y10 y11 y12,.slice y13 y14 y15,.slice y16 y17 y18,.slice y19 y20 y21,.slice y22 y23 y24,.slice y25 y26 y27⟩) (l:=q) (v':= .slice ao2 (k+1) cap2) (m0:=wr.heap.size) (xs:=xs) (HX8.out.below (Ag w6 (.cells #[.string x.name,.int .i64 x.ep,.string x.ver,.string x.rel,.int .u8 x.arch,.string x.vendor,.slice y1 y2 y3,.slice y4 y5 y6,.slice y7 y8 y9,.slice y10 y11 y12,.slice y13 y14 y15,.slice y16 y17 y18,.slice y19 y20 y21,.slice y22 y23 y24,.slice y25 y26 y27] 29))) (IG HI.out.2.1 (HT8.out.trans (Ae.of_below (Ag w6 (.cells #[.string x.name,.int .i64 x.ep,.string x.ver,.string x.rel,.int .u8 x.arch,.string x.vendor,.slice y1 y2 y3,.slice y4 y5 y6,.slice y7 y8 y9,.slice y10 y11 y12,.slice y13 y14 y15,.slice y16 y17 y18,.slice y19 y20 y21,.slice y22 y23 y24,.slice y25 y26 y27] 29)) _) fun _ _ h=>h) (fun k hk=>by have:=HGt.out;omega)) (by rw[HLq.out];exact(HO4.out.touch HT8.out fun b' hq hg=>by have:=(HLo.out b' hq).1;have:=HGt.out;omega).alloc _) HGt.out.2.1 (fun b' hq=>(HLo.out b' hq).2) (Ah.belN HP6.out (Ag _ _)) (by rw[HLq.out];exact hown2) hg2 hat2);have c10:w10.cell? ⟨bx,1,none⟩=some (.slice ap k cq):=HP.out.1.rx.cell 1;have f10:w10.frozen? ⟨bx,1,none⟩=false:=HP.out.1.rx.frozen 1;have l10:bx<w10.heap.size:=HP.out.1.rx.lt;clear hown2 hg2 hat2 hlt2 hn2 hm2)))
     all_goals
      have HS10:=Hd (HP.out.1.set 1 (.slice ao2 (k+1) cap2))
      have HA10:=Hd (Gs (bx:=bx) (i:=1) (u:= .slice ao2 (k+1) cap2) HP.out.2 HGt.out.2.2)
      go_wp2_with fail
      go_roundw
      case rel=>exact⟨k+1,q++ [x],ao2,cap2,a6,e6,HLt.out,by go_num,by rw[List.length_append,HLq.out];rfl,Hd ⟨HS10.out,HA10.out,HG8.out⟩⟩
      case measure=>have:=HLt.out;simp[intOf];omega
    ·have hdis:¬(k:Int)<(n2:Int)∨((k:Int)<(n2:Int)∧(ei==0)=false):=by
      by_cases hlt:k<n2
      ·exact .inr ⟨by omega,by simp;exact fun h=>hgi ⟨hlt,h⟩⟩
      ·exact .inl (by omega)
     have HRp:=Hd (show Res (FA m) s a 0 ⟨(pr:Int),q⟩ ai ei∧(ei=0→k=n2)from by
      have hk2:k=n2∨ei≠0:=by
       by_cases he:ei=0
       ·exact .inl (by have:¬k<n2:=fun h=>hgi ⟨h,he⟩
                       omega)
       ·exact .inr he
      exact⟨Nm HA2.out.2.2.1 HI.out.2.2 hk2,fun he=>hk2.elim id fun h=>absurd he h⟩)
     have HTt:=Hd (show Ae (·=g) wo wr from HT4.out.1.trans HI.out.1.tt fun x hx hF=>by
      rcases hF with h|h
      ·exact h
      ·have:=HT4.out.2.1
       omega)
     have HBo:=Hd (HQ.out.1.call HI.out.1.ds HTt.out)
     have HLp:=Hd (show Az.holds (Am wo.heap.size) wr ⟨(pr:Int),q⟩ (Value.slice ap k cq)from⟨⟨by show(-9223372036854775808:Int)≤(pr:Int);omega,by show(pr:Int)≤9223372036854775807;have:=HA2.out.1;omega⟩,LIn.more HT4.out.1.size (HI.out.2.1.done (by rw[HLq.out];have:=HT4.out.2.2;omega) (by decide))⟩)
     have z0:wr.cell? ⟨bx,0,none⟩=some (.int .i64 pr):=HI.out.1.rx.cell 0
     have w0:wr.cell? ⟨bd,0,none⟩=some (.slice ao j cp):=HBo.out.rx.cell 0
     have wl:=HBo.out.rx.lt
     have hwr:IntKind.i64.wrap ((m:Int)-(n2:Int))=((m-n2:Nat):Int):=by
      have:=HT4.out.2.2
      rw[IntKind.wrap_i64]
      omega
     obtain⟨xs,hown,hone⟩:=HQ.out.2.1.own
     rw[HLe.out]at hown
     have HO4:=Hd hown
     have HN4:=Hd hone
     have HLo:=Hd (show∀b',(Value.slice ao j cp).ownBlock=some b'→ws.heap.size≤b'∧b'<wo.heap.size from fun b' hq=>by
      obtain⟨ps,_,h2,h3,_⟩:=HQ.out.2.1.ex
      exact⟨h3 b' hq,h2.lt b' hq⟩)
     have HGt:=Hd (show g<ws.heap.size∧ws.heap.size≤wo.heap.size∧bd<ws.heap.size from⟨HQ.out.1.lo.1,HQ.out.1.tt.size,HQ.out.1.lo.2.1⟩)
     have HHk:=Hd (show∀w':World,Below wr.heap.size wr w'→w'.cell? ⟨bx,0,none⟩=some (.int .i64 pr)∧w'.cell? ⟨bx,1,none⟩=some (.slice ap k cq)from fun w' hb=>⟨(HI.out.1.rx.below hb HI.out.1.rx.lt).cell 0,(HI.out.1.rx.below hb HI.out.1.rx.lt).cell 1⟩)
     have hke:=HLq.out
     clear hown hone hgi
     rcases hdis with h1|⟨h1,h2⟩
     all_goals
      go_wp2_with (first
       |(at_builtin;(refine AC _ rfl (.tmp 69) (.tmp 71) _ _ rfl 38 iR _ 2 32 Tryz.underlying39 hiR hr0 hr1 hr2 rfl (by omega) (.slice ao j cp) j xs rfl ((HO4.out.touch HTt.out fun b' hq hg=>by have:=(HLo.out b' hq).1;have:=HGt.out;omega).alloc _) HN4.out (.slice (some ⟨wr.heap.size,0,none⟩) 1 1) 1 (Az.cells ⟨(pr:Int),q⟩ (Value.slice ap k cq)) rfl (F6 wr ⟨(pr:Int),q⟩ (.slice ap k cq) rfl) (by simp only[maxLen];omega) (by omega) ?_);rintro ao2 cap2 w10 hna hma hown2 hg2 hat2 hlt2;have HP:=Hd (BS.push (K:=Az) (x:=⟨(pr:Int),q⟩) (r:=Value.slice ap k cq) (l:=l) (v':= .slice ao2 (j+1) cap2) (m0:=wo.heap.size) (xs:=xs) (HBo.out.below (Ag wr (.cells #[.int .i64 pr,.slice ap k cq] 38))) (IG HQ.out.2.1 (HTt.out.trans (Ae.of_below (Ag wr (.cells #[.int .i64 pr,.slice ap k cq] 38)) (·=g)) fun _ _ h=>h) (fun k hk=>by have:=HGt.out;omega)) (by rw[HLe.out];exact(HO4.out.touch HTt.out fun b' hq hg=>by have:=(HLo.out b' hq).1;have:=HGt.out;omega).alloc _) HGt.out.2.1 (fun b' hq=>(HLo.out b' hq).2) (Co HLp.out (Ag _ _)) (by rw[HLe.out];exact hown2) hg2 hat2);have c10:w10.cell? ⟨bd,0,none⟩=some (.slice ao j cp):=HP.out.1.rx.cell 0;have f10:w10.frozen? ⟨bd,0,none⟩=false:=HP.out.1.rx.frozen 0;have l10:bd<w10.heap.size:=HP.out.1.rx.lt;clear hown2 hg2 hat2 hlt2 hna hma)
       |fail)
      have HS10:=Hd (HP.out.1.set 0 (.slice ao2 (j+1) cap2))
      have HA10:=Hd (Gs (bx:=bd) (i:=0) (u:= .slice ao2 (j+1) cap2) HP.out.2 HGt.out.2.2)
      go_roundw
      case rel=>exact⟨j+1,m-n2,l++ [⟨(pr:Int),q⟩],ao2,cap2,ai,ei,HLj.out,by go_num,rfl,by omega,by rw[List.length_append,HLe.out];rfl,Hd ⟨HS10.out,HA10.out,HQ.out.2.2.step HLj.out HRp.out.1 fun he=>by
       have h9:=HRp.out.2 he
       have h8:=HLq.out
       show m-n2=m-q.length
       omega⟩⟩
      case measure=>have:=HLj.out;simp[intOf];omega
  ·have hdis:¬(j:Int)<(n:Int)∨((j:Int)<(n:Int)∧(eo==0)=false):=by
    by_cases hlt:j<n
    ·exact .inr ⟨by omega,by simp;exact fun h=>hgo ⟨hlt,h⟩⟩
    ·exact .inl (by omega)
   have HRo:=Hd (show Res pO s 0 0 (l,m) a eo from HQ.out.2.2.done (by
    by_cases he:eo=0
    ·exact .inl (by have:¬j<n:=fun h=>hgo ⟨h,he⟩
                    omega)
    ·exact .inr he))
   have HLr:=Hd (show LIn Az (Am ws.heap.size) wo l (.slice ao j cp)from HQ.out.2.1.done (by rw[HLe.out];have:=HBl.out;omega) (by decide))
   have HC:=Hd (DE HQ.out.1.ds 0 (m:Int) (by omega))
   clear hgo
   rcases hdis with h1|⟨h1,h2⟩
   all_goals
    go_wp2_with (first
     |(go_at_call 57;(with_reducible refine HC.out.mono ?_);rintro rr wm ⟨n3,a7,e7,rfl,hn3,hs7,hr7,ht7,hl7,hz7⟩;have HB7:=Hd (BS.start hs7 (HQ.out.1.rx.touch ht7 (fun h=>HQ.out.1.lo.2.2 h.symm)) HQ.out.1.lo.2.2);have HT7:=Hd (show Ae (fun k=>k=g∨k=bd) ws wm∧n3≤m∧LIn Az (Am ws.heap.size) wm l (.slice ao j cp)from⟨HQ.out.1.tt.trans ht7 fun _ _ h=> .inl h,by omega,IF HLr.out ht7 fun k hk=>by have:=HBl.out;omega⟩);have HD7:=Hd (DGo.start (p:=Iz) hr7);clear hn3 hs7 hr7 ht7 hl7 hz7)
     |fail)
    clear HC c2 cl
    go_loopw [15] (fun i wr=>∃(k:Nat) (q:List Aq) (ap:Option Addr) (cq ai:Nat) (ei:Int),k≤n3∧i= .int .i64 k∧q.length=k∧Hid (BS wm bd 55 #[.slice ao j cp,.slice ap k cq] g s ai ei wr∧Acc AN 29 wm.heap.size wr q (.slice ap k cq)∧DGo Iz 0 (m:Int) s a eo n3 k q ai ei)) (fun i _=>n3-(intOf i).toNat)
    case atStart=>exact⟨0,[],none,0,a7,e7,by omega,rfl,rfl,Hd ⟨HB7.out,Acc.nil _ _ _ _,HD7.out⟩⟩
    case round=>
     clear HB7 HD7
     obtain⟨k,q,ap,cq,ai,ei,hk,rfl,hq,HI⟩:=hrel
     have HLq:=Hd hq
     clear hq
     have c2:wr.cell? ⟨g,2,none⟩=some (.int .i64 ei):=HI.out.1.ds.rb.cell 2
     have cl:=HI.out.1.ds.rb.lt
     have y1:wr.cell? ⟨bd,1,none⟩=some (.slice ap k cq):=HI.out.1.rx.cell 1
     have yf1:wr.frozen? ⟨bd,1,none⟩=false:=HI.out.1.rx.frozen 1
     have yl:=HI.out.1.rx.lt
     by_cases hgi:k<n3∧ei=0
     ·obtain⟨hlt,rfl⟩:=hgi
      have hki:(k:Int)<(n3:Int):=by omega
      have hk9:k<256:=by
       have:=HT7.out.2.1
       omega
      have HLt:=Hd hlt
      have HM:=Hd (fun w' (hb:Below wr.heap.size wr w')=>DC (HI.out.1.ds.below hb))
      obtain⟨xs,hown,hone⟩:=HI.out.2.1.own
      rw[HLq.out]at hown
      have HO4:=Hd hown
      have HN4:=Hd hone
      have HLo:=Hd (show∀b',(Value.slice ap k cq).ownBlock=some b'→wm.heap.size≤b'∧b'<wr.heap.size from fun b' hq=>by
       obtain⟨ps,_,h2,h3,_⟩:=HI.out.2.1.ex
       exact⟨h3 b' hq,h2.lt b' hq⟩)
      have HGt:=Hd (show g<wm.heap.size∧wm.heap.size≤wr.heap.size∧bd<wm.heap.size from⟨HI.out.1.lo.1,HI.out.1.tt.size,HI.out.1.lo.2.1⟩)
      have HDr:=Hd (show Below wr.heap.size wr wr.drew from(Below.refl _ wr).drew)
      have q5:wr.drew.cell? ⟨bd,1,none⟩=some (.slice ap k cq):=y1
      clear hown hone hlt
      go_upto_region 22 with fail
      rw[show Op.load 36 (Operand.tmp 89)=ldP 89 from rfl]
      go_region_held3 (fun _=>True) (exact trivial)
       ((first
         |(go_at_call 58;(with_reducible refine(HM.out _ HDr.out).mono ?_);rintro rr w6 ⟨x,r,a6,e6,rfl,hin,hs6,hr6,ht6⟩;have HX8:=Hd ((HI.out.1.below HDr.out).call hs6 ht6);have HT8:=Hd ((Ae.of_below HDr.out (·=g)).trans ht6 fun _ _ h=>h);have HG8:=Hd (HI.out.2.2.step HLt.out hr6);have hfm:=hin.forms;have HP6:=Hd (show Ah (Am wr.heap.size) w6 x r from hin);clear hin hs6 hr6 ht6;obtain⟨⟨y1,y2,y3,e1⟩,⟨y4,y5,y6,e2⟩,⟨y7,y8,y9,e3⟩,⟨y10,y11,y12,e4⟩,⟨y13,y14,y15,e5⟩,⟨y16,y17,y18,e6⟩,⟨y19,y20,y21,e7⟩,⟨y22,y23,y24,e8⟩,⟨y25,y26,y27,e9⟩⟩:=hfm;rcases r with ⟨s0,s1,s2,s3,s4,s5,s6,s7,s8⟩;dsimp only at e1 e2 e3 e4 e5 e6 e7 e8 e9;subst e1 e2 e3 e4 e5 e6 e7 e8 e9;have q6:w6.cell? ⟨bd,1,none⟩=some (.slice ap k cq):=HX8.out.rx.cell 1;have q7:(w6.alloc (.cells #[.string x.name,.int .i64 x.ep,.string x.ver,.string x.rel,.int .u8 x.arch,.string x.vendor,.slice y1 y2 y3,.slice y4 y5 y6,.slice y7 y8 y9,.slice y10 y11 y12,.slice y13 y14 y15,.slice y16 y17 y18,.slice y19 y20 y21,.slice y22 y23 y24,.slice y25 y26 y27] 29)).cell? ⟨bd,1,none⟩=some (.slice ap k cq):=(HX8.out.below (Ag _ _)).rx.cell 1)
         |(refine BI _ (by rfl) (.tmp 90) (.tmp 93) _ _ (by rfl) 29 iP _ 15 296 Tryz.underlying36 hiP hp0 hp1 hp2 rfl (by omega) (.slice ap k cq) k xs (by rfl) ((HO4.out.touch HT8.out fun b' hq hg=>by have:=(HLo.out b' hq).1;have:=HGt.out;omega).alloc _) HN4.out (.slice (some ⟨w6.heap.size,0,none⟩) 1 1) 1 (CC x ⟨.slice y1 y2 y3,.slice y4 y5 y6,.slice y7 y8 y9,.slice y10 y11 y12,.slice y13 y14 y15,.slice y16 y17 y18,.slice y19 y20 y21,.slice y22 y23 y24,.slice y25 y26 y27⟩) (by rfl) (FO w6 x ⟨.slice y1 y2 y3,.slice y4 y5 y6,.slice y7 y8 y9,.slice y10 y11 y12,.slice y13 y14 y15,.slice y16 y17 y18,.slice y19 y20 y21,.slice y22 y23 y24,.slice y25 y26 y27⟩ (AN.one (x:=x) (r:=⟨.slice y1 y2 y3,.slice y4 y5 y6,.slice y7 y8 y9,.slice y10 y11 y12,.slice y13 y14 y15,.slice y16 y17 y18,.slice y19 y20 y21,.slice y22 y23 y24,.slice y25 y26 y27⟩) HP6.out)) (by simp only[maxLen];omega) (by omega) ?_;intro ao2 cap2 w10 hn2 hm2 hown2 hg2 hat2 hlt2;have HP:=Hd (BS.push (K:=AN) (x:=x) (r:=⟨.slice y1 y2 y3,.slice y4 y5 y6,.slice y7 y8 y9,.slice y10 y11 y12,.slice y13 y14 y15,.slice y16 y17 y18,.slice y19 y20 y21,.slice y22 y23 y24,.slice y25 y26 y27⟩) (l:=q) (v':= .slice ao2 (k+1) cap2) (m0:=wr.heap.size) (xs:=xs) (HX8.out.below (Ag w6 (.cells #[.string x.name,.int .i64 x.ep,.string x.ver,.string x.rel,.int .u8 x.arch,.string x.vendor,.slice y1 y2 y3,.slice y4 y5 y6,.slice y7 y8 y9,.slice y10 y11 y12,.slice y13 y14 y15,.slice y16 y17 y18,.slice y19 y20 y21,.slice y22 y23 y24,.slice y25 y26 y27] 29))) (IG HI.out.2.1 (HT8.out.trans (Ae.of_below (Ag w6 (.cells #[.string x.name,.int .i64 x.ep,.string x.ver,.string x.rel,.int .u8 x.arch,.string x.vendor,.slice y1 y2 y3,.slice y4 y5 y6,.slice y7 y8 y9,.slice y10 y11 y12,.slice y13 y14 y15,.slice y16 y17 y18,.slice y19 y20 y21,.slice y22 y23 y24,.slice y25 y26 y27] 29)) _) fun _ _ h=>h) (fun k hk=>by have:=HGt.out;omega)) (by rw[HLq.out];exact(HO4.out.touch HT8.out fun b' hq hg=>by have:=(HLo.out b' hq).1;have:=HGt.out;omega).alloc _) HGt.out.2.1 (fun b' hq=>(HLo.out b' hq).2) (Ah.belN HP6.out (Ag _ _)) (by rw[HLq.out];exact hown2) hg2 hat2);have c10:w10.cell? ⟨bd,1,none⟩=some (.slice ap k cq):=HP.out.1.rx.cell 1;have f10:w10.frozen? ⟨bd,1,none⟩=false:=HP.out.1.rx.frozen 1;have l10:bd<w10.heap.size:=HP.out.1.rx.lt;clear hown2 hg2 hat2 hlt2 hn2 hm2)))
      all_goals
       have HS10:=Hd (HP.out.1.set 1 (.slice ao2 (k+1) cap2))
       have HA10:=Hd (Gs (bx:=bd) (i:=1) (u:= .slice ao2 (k+1) cap2) HP.out.2 HGt.out.2.2)
       go_wp2_with fail
       go_roundw
       case rel=>exact⟨k+1,q++ [x],ao2,cap2,a6,e6,HLt.out,by go_num,by rw[List.length_append,HLq.out];rfl,Hd ⟨HS10.out,HA10.out,HG8.out⟩⟩
       case measure=>have:=HLt.out;simp[intOf];omega
     ·have hdis:¬(k:Int)<(n3:Int)∨((k:Int)<(n3:Int)∧(ei==0)=false):=by
       by_cases hlt:k<n3
       ·exact .inr ⟨by omega,by simp;exact fun h=>hgi ⟨hlt,h⟩⟩
       ·exact .inl (by omega)
      have HR:=Hd (show Res Hu s 0 0 ⟨l,q⟩ ai ei from Al HRo.out (Al (p:=Hv m) (HI.out.2.2.fin (by
       by_cases he:ei=0
       ·exact .inl (by have:¬k<n3:=fun h=>hgi ⟨h,he⟩
                       omega)
       ·exact .inr he)) (A5 _)))
      have HTw:=Hd (show Ae (fun k=>k=g∨k=bd) ws wr from HT7.out.1.trans HI.out.1.tt fun _ _ h=>h)
      have HLw:=Hd (show LIn Az (Am ws.heap.size) wr l (.slice ao j cp)∧LIn AN (Am ws.heap.size) wr q (.slice ap k cq)from⟨IF HT7.out.2.2 HI.out.1.tt fun k hk=>by have:=HBl.out;omega,LIn.more HT7.out.1.size (HI.out.2.1.done (by rw[HLq.out];have:=HT7.out.2.1;omega) (by decide))⟩)
      have HE:=Hd (Ou HI.out.1.ds)
      obtain⟨e9,he9⟩:∃e9,e9=KW ei ai s.size:=⟨_,rfl⟩
      rw[←he9]at HE
      have HE9:=Hd he9
      clear he9 hgi yf1
      rcases hdis with h3|⟨h3,h4⟩
      all_goals
       by_cases h9:e9=0
       ·subst h9
        go_upto_region 27 with (first
         |(go_at_call 59;(with_reducible refine HE.out.mono ?_);rintro rr w8 ⟨rfl,hs8,ht8⟩;have HB8:=Hd (HI.out.1.call hs8 ht8);have HT8:=Hd ht8;have HW8:=Hd (GF hs8);clear hs8 ht8)
         |(go_at_call 60;(with_reducible refine HW8.out.mono ?_);rintro rr w9 ⟨rfl,hb9⟩;have HB9:=Hd (HB8.out.below hb9);have HT9:=Hd (HT8.out.trans (Ae.of_below hb9 (·=g)) fun _ _ h=>h);clear hb9)
         |fail)
        clear c2 cl y1 yl
        have HX:=Hd (show Blk w9 b 55 #[.slice none 0 0,.slice none 0 0]∧Below w.heap.size w w9∧LIn Az (Am ws.heap.size) w9 l (.slice ao j cp)∧LIn AN (Am ws.heap.size) w9 q (.slice ap k cq)from by
         have hz:=HBl.out
         refine⟨(hz.2.1.touch HTw.out (by omega)).touch HT9.out (by omega),hz.1.trans ((HTw.out.trans HT9.out fun _ _ h=>Or.inl h).below hz.1.size (by omega)),IF HLw.out.1 HT9.out fun k hk=>by omega,IF HLw.out.2 HT9.out fun k hk=>by omega⟩)
        have z0:=HB9.out.rx.cell 0
        have z1:=HB9.out.rx.cell 1
        have zl:=HB9.out.rx.lt
        have f0:=HX.out.1.frozen 0
        have f1:=HX.out.1.frozen 1
        have c0:=HX.out.1.cell 0
        have c1:=HX.out.1.cell 1
        have cl:=HX.out.1.lt
        go_wp2_with fail
        have q1:=(HX.out.1.set_ 0 (.slice ao j cp)).set_ 1 (.slice ap k cq)
        have hle:w.heap.size≤b:=by have:=HBl.out;omega
        have hbs:b<ws.heap.size:=by have:=HBl.out;omega
        have hll:=HLe.out
        have hkk:=HLq.out
        refine bodyPost_ret (Bd rfl _ _ b 55 _ (0,0) _ rfl q1 Tryz.underlying55 rfl (by kernel_rfl)) rfl ⟨(HX.out.2.1.setCell (p:=⟨b,0,none⟩) hle _).setCell (p:=⟨b,1,none⟩) hle _,?_⟩
        unfold Cz
        rw[JY HLg.out HR.out HE9.out.symm]
        exact⟨_,_,rfl,((HX.out.2.2.1.set_ (i:=0) (u:= .slice ao j cp) hbs).set_ (i:=1) (u:= .slice ap k cq) hbs).more (by omega),((HX.out.2.2.2.set_ (i:=0) (u:= .slice ao j cp) hbs).set_ (i:=1) (u:= .slice ap k cq) hbs).more (by omega)⟩
       ·have hd7:(e9==0)=false:=by simpa using h9
        have hd8:(e9 !=0)=true:=by simpa using h9
        have HN9:=Hd h9
        clear h9
        go_upto_region 26 with (first
         |(go_at_call 59;(with_reducible refine HE.out.mono ?_);rintro rr w8 ⟨rfl,hs8,ht8⟩;have HB8:=Hd (HI.out.1.call hs8 ht8);have HT8:=Hd ht8;have HW8:=Hd (GF hs8);clear hs8 ht8)
         |(go_at_call 60;(with_reducible refine HW8.out.mono ?_);rintro rr w9 ⟨rfl,hb9⟩;have HB9:=Hd (HB8.out.below hb9);have HT9:=Hd (HT8.out.trans (Ae.of_below hb9 (·=g)) fun _ _ h=>h);clear hb9)
         |fail)
        clear c2 cl y1 yl
        have HX:=Hd (show Blk w9 b 55 #[.slice none 0 0,.slice none 0 0]∧Below w.heap.size w w9 from by
         have hz:=HBl.out
         refine⟨(hz.2.1.touch HTw.out (by omega)).touch HT9.out (by omega),hz.1.trans ((HTw.out.trans HT9.out fun _ _ h=>Or.inl h).below hz.1.size (by omega))⟩)
        have f0:=HX.out.1.frozen 0
        have f1:=HX.out.1.frozen 1
        have c0:=HX.out.1.cell 0
        have c1:=HX.out.1.cell 1
        have cl:=HX.out.1.lt
        go_wp2_with fail
        have q1:=(HX.out.1.set_ 0 nV).set_ 1 nV
        have hle:w.heap.size≤b:=by have:=HBl.out;omega
        refine bodyPost_ret (Bd rfl _ _ b 55 _ (0,0) _ rfl q1 Tryz.underlying55 rfl (by kernel_rfl)) rfl ⟨(HX.out.2.setCell (p:=⟨b,0,none⟩) hle _).setCell (p:=⟨b,1,none⟩) hle _,?_⟩
        have ha:dAt e9 ai=(ai:Int):=if_neg HN9.out
        show Cz s w.heap.size (.returned (.tuple #[.agg #[.slice none 0 0,.slice none 0 0],.int .i64 (dAt e9 ai),.int .i64 e9])) _
        unfold Cz
        rw[LT HLg.out HR.out (by rw[←LU,←HE9.out];exact HN9.out),←LU,←HE9.out,ha]
theorem D7 {a b:ByteArray} (h:a.toList=b.toList):a=b:=by
 have h1:=(BV (a:=⟨a,0,0,emp,emp⟩) (b:=⟨b,0,0,emp,emp⟩)).1 (by simp[Ar,h])
 injection h1
theorem BH {α:Type} {f:α→α→Bool} (h:∀x y,f x y=true→f y x=true) {a b:List α} (h2:eqL f a b=true):eqL f b a=true:=by
 rw[Bp]at h2 ⊢
 exact⟨h2.1.symm,fun j k1 k2=>h _ _ (h2.2 j k2 k1)⟩
theorem Bi {α:Type} {f:α→α→Bool} (h:∀x y z,f x y=true→f y z=true→f x z=true) {a b c:List α} (h1:eqL f a b=true) (h2:eqL f b c=true):eqL f a c=true:=by
 rw[Bp]at h1 h2 ⊢
 exact⟨h1.1.trans h2.1,fun j k1 k2=>h _ _ _ (h1.2 j k1 (by omega)) (h2.2 j (by omega) k2)⟩
theorem Ck:(a b c:Ac)→As a b=true→As b c=true→As a c=true
 | .nil,b,c,h1,h2=>by
   rw[C5]at h1 h2 ⊢
   exact⟨h1.1.trans h2.1,h1.2.1.trans h2.2.1,h1.2.2.1.trans h2.2.2.1,fun j hj=>absurd hj (Nat.not_lt_zero j)⟩
 | .node k d n f,b,c,h1,h2=>by
   rw[C5]at h1 h2 ⊢
   exact⟨h1.1.trans h2.1,h1.2.1.trans h2.2.1,h1.2.2.1.trans h2.2.2.1,fun j hj=>Ck (f j) _ _ (h1.2.2.2 j hj) (h2.2.2.2 j (h1.2.2.1▸hj))⟩
structure Rk (p q:Aq):Prop where
 name:p.name=q.name
 ep:p.ep=q.ep
 ver:p.ver=q.ver
 rel:p.rel=q.rel
 arch:p.arch=q.arch
 vendor:p.vendor=q.vendor
 prov:eqL Ar p.prov q.prov=true
 req:eqL As (Ab p.req) (Ab q.req)=true
 con:eqL As (Ab p.con) (Ab q.con)=true
 obs:eqL Ar p.obs q.obs=true
 reco:eqL As (Ab p.reco) (Ab q.reco)=true
 sup:eqL As (Ab p.sup) (Ab q.sup)=true
 sug:eqL As (Ab p.sug) (Ab q.sug)=true
 enh:eqL As (Ab p.enh) (Ab q.enh)=true
 files:eqL eqT p.files q.files=true
theorem I9 {p q:Aq}:Ak p q=true↔Rk p q:=by
 unfold Ak
 simp only[Bool.and_eq_true,decide_eq_true_eq]
 constructor
 ·rintro⟨a1,a2,a3,a4,a5,a6,a7,a8,a9,a10,a11,a12,a13,a14,a15⟩
  exact⟨D7 a1,a2,D7 a3,D7 a4,a5,D7 a6,a7,a8,a9,a10,a11,a12,a13,a14,a15⟩
 ·rintro⟨a1,a2,a3,a4,a5,a6,a7,a8,a9,a10,a11,a12,a13,a14,a15⟩
  exact⟨by rw[a1],a2,by rw[a3],by rw[a4],a5,by rw[a6],a7,a8,a9,a10,a11,a12,a13,a14,a15⟩
theorem JX {a b:Ax} (h:Ar a b=true):Ar b a=true:=BV.2 (BV.1 h).symm
theorem H7 {a b c:Ax} (h:Ar a b=true) (h2:Ar b c=true):Ar a c=true:=BV.2 ((BV.1 h).trans (BV.1 h2))
theorem NY {a b:ByteArray} (h:eqT a b=true):eqT b a=true:=by simp only[decide_eq_true_eq]at h ⊢;exact h.symm
theorem MN {a b c:ByteArray} (h:eqT a b=true) (h2:eqT b c=true):eqT a c=true:=by simp only[decide_eq_true_eq]at h h2 ⊢;exact h.trans h2
theorem Fo (p q:Aq) (h:Ak p q=true):Ak q p=true:=by
 rw[I9]at h ⊢
 exact⟨h.name.symm,h.ep.symm,h.ver.symm,h.rel.symm,h.arch.symm,h.vendor.symm,BH (fun _ _=>JX) h.prov,BH CF h.req,BH CF h.con,BH (fun _ _=>JX) h.obs,BH CF h.reco,BH CF h.sup,BH CF h.sug,BH CF h.enh,BH (fun _ _=>NY) h.files⟩
theorem Ev (p q r:Aq) (h:Ak p q=true) (k:Ak q r=true):Ak p r=true:=by
 rw[I9]at h k ⊢
 exact⟨h.name.trans k.name,h.ep.trans k.ep,h.ver.trans k.ver,h.rel.trans k.rel,h.arch.trans k.arch,h.vendor.trans k.vendor,Bi (f:=Ar) (fun x y z=>H7 (a:=x) (b:=y) (c:=z)) h.prov k.prov,Bi Ck h.req k.req,Bi Ck h.con k.con,Bi (f:=Ar) (fun x y z=>H7 (a:=x) (b:=y) (c:=z)) h.obs k.obs,Bi Ck h.reco k.reco,Bi Ck h.sup k.sup,Bi Ck h.sug k.sug,Bi Ck h.enh k.enh,Bi (f:=eqT) (fun x y z=>MN (a:=x) (b:=y) (c:=z)) h.files k.files⟩
theorem Hh {x y:AK}:Bf x y=true↔x.prio=y.prio∧eqL Ak x.pkgs y.pkgs=true:=by
 unfold Bf
 rw[Bool.and_eq_true,decide_eq_true_eq]
theorem Kj (x y:AK) (h:Bf x y=true):Bf y x=true:=by
 rw[Hh]at h ⊢
 exact⟨h.1.symm,BH Fo h.2⟩
theorem I7 (x y z:AK) (h:Bf x y=true) (k:Bf y z=true):Bf x z=true:=by
 rw[Hh]at h k ⊢
 exact⟨h.1.trans k.1,Bi Ev h.2 k.2⟩
theorem Hi {a b:AA}:Bm a b=true↔eqL Ak a.inst b.inst=true∧eqL Bf a.repos b.repos=true:=by
 unfold Bm
 rw[Bool.and_eq_true]
theorem Kk {a b:AA} (h:Bm a b=true):Bm b a=true:=by
 rw[Hi]at h ⊢
 exact⟨BH Fo h.1,BH Kj h.2⟩
theorem I8 {a b c:AA} (h:Bm a b=true) (k:Bm b c=true):Bm a c=true:=by
 rw[Hi]at h k ⊢
 exact⟨Bi Ev h.1 k.1,Bi I7 h.2 k.2⟩
theorem Eh (a:AA):Bm a a=true:=I8 (Kk (F8 a)) (F8 a)
structure AA.small (d:AA):Prop where
 repos:d.repos.length≤1048576
 pkgs:∀x∈d.repos,x.pkgs.length≤1048576∧∀p∈x.pkgs,p.small
 inst:d.inst.length≤1048576∧∀p∈d.inst,p.small
def GU (d:AA) (w:World) (e:Ending) (w':World):Prop:=∃vr vi,e= .returned (.agg #[vr,vi])∧AR (Am w.heap.size) w' d vr vi∧Below w.heap.size w w'
structure OSt (d:AA) (w:World) (g:Nat) (vr vi:Value) (k:Nat) (xr:Value) (W:World):Prop where
 b0:Blk W g 55 #[vr,vi]
 b1:Blk W (g+1) 55 #[.slice none 0 0,.slice none 0 0]
 b2:Blk W (g+2) 55 #[xr,.slice none 0 0]
 ac:Acc Az 38 (g+3) W (d.repos.take k) xr
 bl:Below w.heap.size w W
 gw:g=w.heap.size
structure ISt (x:AK) (wr:World) (gr j:Nat) (cur:Value) (W:World):Prop where
 br:Blk W gr 38 #[.int .i64 x.prio,cur]
 ac:Acc AN 29 (gr+1) W (x.pkgs.take j) cur
 bl:Below wr.heap.size wr W
 gw:gr=wr.heap.size
theorem OSt.start (d:AA) (w:World) (vr vi:Value):OSt d w w.heap.size vr vi 0 nV (((w.alloc (.cells #[vr,vi] 55)).alloc (.cells #[.slice none 0 0,.slice none 0 0] 55)).alloc (.cells #[.slice none 0 0,.slice none 0 0] 55)):=by
 have h1:=Ag w (.cells #[vr,vi] 55)
 have h2:=Ag (w.alloc (.cells #[vr,vi] 55)) (.cells #[.slice none 0 0,.slice none 0 0] 55)
 have h3:=Ag ((w.alloc (.cells #[vr,vi] 55)).alloc (.cells #[.slice none 0 0,.slice none 0 0] 55)) (.cells #[.slice none 0 0,.slice none 0 0] 55)
 have x1:=Blk.new w 55 #[vr,vi]
 have x2:=Blk.new (w.alloc (.cells #[vr,vi] 55)) 55 #[.slice none 0 0,.slice none 0 0]
 have x3:=Blk.new ((w.alloc (.cells #[vr,vi] 55)).alloc (.cells #[.slice none 0 0,.slice none 0 0] 55)) 55 #[.slice none 0 0,.slice none 0 0]
 rw[World.size_alloc]at x2
 rw[World.size_alloc,World.size_alloc]at x3
 have y1:=x1.below h2 x1.lt
 have y2:=y1.below h3 y1.lt
 exact⟨y2,x2.below h3 x2.lt,x3,Acc.nil _ _ _ _,Aa (Aa h1 h2) h3,rfl⟩
theorem AP {l:List Value} {n:Nat} (h:l.length=n+1):∃x l',l=x::l'∧l'.length=n:=by
 cases l with
 |nil=>cases h
 |cons x l'=>exact⟨x,l',rfl,by simpa using h⟩
theorem OV {l:List Value} (h:l.length=15):∃m0 m1 m2 m3 m4 m5 m6 m7 m8 m9 m10 m11 m12 m13 m14,l= [m0,m1,m2,m3,m4,m5,m6,m7,m8,m9,m10,m11,m12,m13,m14]:=by
 obtain⟨m0,l0,e0,h0⟩:=AP h
 obtain⟨m1,l1,e1,h1⟩:=AP h0
 obtain⟨m2,l2,e2,h2⟩:=AP h1
 obtain⟨m3,l3,e3,h3⟩:=AP h2
 obtain⟨m4,l4,e4,h4⟩:=AP h3
 obtain⟨m5,l5,e5,h5⟩:=AP h4
 obtain⟨m6,l6,e6,h6⟩:=AP h5
 obtain⟨m7,l7,e7,h7⟩:=AP h6
 obtain⟨m8,l8,e8,h8⟩:=AP h7
 obtain⟨m9,l9,e9,h9⟩:=AP h8
 obtain⟨m10,l10,e10,h10⟩:=AP h9
 obtain⟨m11,l11,e11,h11⟩:=AP h10
 obtain⟨m12,l12,e12,h12⟩:=AP h11
 obtain⟨m13,l13,e13,h13⟩:=AP h12
 obtain⟨m14,l14,e14,h14⟩:=AP h13
 have e:=List.eq_nil_of_length_eq_zero h14
 exact⟨m0,m1,m2,m3,m4,m5,m6,m7,m8,m9,m10,m11,m12,m13,m14,by rw[e0,e1,e2,e3,e4,e5,e6,e7,e8,e9,e10,e11,e12,e13,e14,e]⟩
theorem Ln {l:List Value} (h:l.length=11):∃m0 m1 m2 m3 m4 m5 m6 m7 m8 m9 m10,l= [m0,m1,m2,m3,m4,m5,m6,m7,m8,m9,m10]:=by
 obtain⟨m0,l0,e0,h0⟩:=AP h
 obtain⟨m1,l1,e1,h1⟩:=AP h0
 obtain⟨m2,l2,e2,h2⟩:=AP h1
 obtain⟨m3,l3,e3,h3⟩:=AP h2
 obtain⟨m4,l4,e4,h4⟩:=AP h3
 obtain⟨m5,l5,e5,h5⟩:=AP h4
 obtain⟨m6,l6,e6,h6⟩:=AP h5
 obtain⟨m7,l7,e7,h7⟩:=AP h6
 obtain⟨m8,l8,e8,h8⟩:=AP h7
 obtain⟨m9,l9,e9,h9⟩:=AP h8
 obtain⟨m10,l10,e10,h10⟩:=AP h9
 have e:=List.eq_nil_of_length_eq_zero h10
 exact⟨m0,m1,m2,m3,m4,m5,m6,m7,m8,m9,m10,by rw[e0,e1,e2,e3,e4,e5,e6,e7,e8,e9,e10,e]⟩
theorem ISt.start (x:AK) (wr:World):ISt x wr wr.heap.size 0 nV (wr.alloc (.cells #[.int .i64 x.prio,.slice none 0 0] 38)):=⟨Blk.new _ _ _,Acc.nil _ _ _ _,Ag _ _,rfl⟩
theorem NP {α:Type} {K:Kd α} {B:World→Nat→Prop} {w:World} {l:List α} {v:Value} (h:LIn K B w l v):l.length≤4611686018427387904:=h.bound
theorem Qc:∃i,Tryz.prog.info? 38=some i∧i.zero=some (.agg #[.int .i64 0,.slice none 0 0])∧i.size=2∧i.bytes=32:=
 info_parts (P:=Tryz.prog) (e:=38) (z:= .agg #[.int .i64 0,.slice none 0 0]) (size:=2) (bytes:=32) (by kernel_rfl)
structure TSt (d:AA) (w:World) (g:Nat) (vr vi xr:Value) (w3:World) (j:Nat) (xi:Value) (W:World):Prop where
 b0:Blk W g 55 #[vr,vi]
 b1:Blk W (g+1) 55 #[.slice none 0 0,.slice none 0 0]
 b2:Blk W (g+2) 55 #[xr,xi]
 ac:Acc AN 29 w3.heap.size W (d.inst.take j) xi
 tc:Ae (fun b=>b=g+2) w3 W
 bl:Below w.heap.size w W
theorem Jh (d:AA) (vr vi:Value) (w:World) (h:AR Ai w d vr vi) (hsm:d.small):Calls Tryz.prog 20 #[.agg #[vr,vi]] w (GU d w):=by
 obtain⟨ar,cr,rfl⟩:=h.repos.form
 obtain⟨ai,ci,rfl⟩:=h.inst.form
 obtain⟨n1,hn1⟩:∃n,n=d.repos.length:=⟨_,rfl⟩
 obtain⟨n2,hn2⟩:∃n,n=d.inst.length:=⟨_,rfl⟩
 have HD:=Hd h
 have HS:=Hd hsm
 have HN:=Hd (And.intro hn1 hn2)
 have hnb1:n1≤1048576:=hn1▸hsm.repos
 have hnb2:n2≤1048576:=hn2▸hsm.inst.1
 rw[←hn1,←hn2]
 clear h hsm hn1 hn2
 go_enter Tryz.func20,Tryz.ntmps20
 go_wp2_with fail
 have HO:=Hd (OSt.start d w (.slice ar n1 cr) (.slice ai n2 ci))
 obtain⟨W,hW⟩:∃W,W=(((w.alloc (.cells #[.slice ar n1 cr,.slice ai n2 ci] 55)).alloc (.cells #[.slice none 0 0,.slice none 0 0] 55)).alloc (.cells #[.slice none 0 0,.slice none 0 0] 55)):=⟨_,rfl⟩
 rw[←hW]at HO ⊢
 obtain⟨g,hg⟩:∃g,g=w.heap.size:=⟨_,rfl⟩
 rw[←hg]at HO ⊢
 clear hW hg
 go_loopw [4] (fun i wr=>∃k:Nat,k≤n1∧i= .int .i64 k∧∃xr,Hid (OSt d w g (.slice ar n1 cr) (.slice ai n2 ci) k xr wr)) (fun i _=>n1-(intOf i).toNat)
 case atStart=>exact⟨0,by omega,rfl,_,HO.out⟩
 case round=>
  obtain⟨k,hk,rfl,xr,HQ⟩:=hrel
  have z0:wr.cell? ⟨g,0,none⟩=some (.slice ar n1 cr):=HQ.out.b0.cell 0
  have zl:g<wr.heap.size:=HQ.out.b0.lt
  by_cases hlt:k<n1
  ·have hki:(k:Int)<(n1:Int):=by omega
   obtain⟨b,o,r,ha,_,hcs0,hh0⟩:=HD.out.repos.at_ k (by have:=HN.out;omega)
   obtain⟨x,hx⟩:∃x,x=d.repos[k]'(by have:=HN.out;omega):=⟨_,rfl⟩
   rw[←hx]at hcs0 hh0
   subst ha
   dsimp only[Az]at hcs0 r
   have hpk:LIn AN Ai w x.pkgs r:=hh0.2
   obtain⟨xa,xc,hr⟩:=hpk.form
   have hr':(r:Value)= .slice xa x.pkgs.length xc:=hr
   subst hr'
   obtain⟨np,hnp⟩:∃n,n=x.pkgs.length:=⟨_,rfl⟩
   rw[←hnp]at hcs0
   have hd:=hcs0.below HQ.out.bl
   have x0:wr.cell? ⟨b,o+k*2,none⟩=some (.int .i64 x.prio):=hd.2 0 (show 0<2 by omega)
   have x1:wr.cell? ⟨b,o+k*2+1,none⟩=some (.slice xa np xc):=hd.2 1 (show 1<2 by omega)
   have xl:=hd.1
   have HX:=Hd (And.intro hx hnp)
   have hnb3:np≤1048576:=by rw[hnp];exact(HS.out.pkgs x (hx▸List.getElem_mem _)).1
   have HC:=Hd hcs0
   have HH:=Hd hh0
   have HLt:=Hd hlt
   clear hx hnp hcs0 hh0 hpk hr hd
   go_wp2_with fail
   have HI:=Hd (ISt.start x wr)
   obtain⟨V,hV⟩:∃V,V=(wr.alloc (.cells #[.int .i64 x.prio,.slice none 0 0] 38)):=⟨_,rfl⟩
   rw[←hV]at HI ⊢
   obtain⟨gr,hgr⟩:∃g,g=wr.heap.size:=⟨_,rfl⟩
   rw[←hgr]at HI ⊢
   have HGr:=Hd hgr
   clear hV hgr x0 x1 xl z0 zl
   obtain⟨wo,rfl⟩:∃wo,wo=wr:=⟨_,rfl⟩
   go_loopw [6] (fun i wx=>∃j:Nat,j≤np∧i= .int .i64 j∧∃cur,Hid (ISt x wo gr j cur wx)) (fun i _=>np-(intOf i).toNat)
   case atStart=>exact⟨0,by omega,rfl,_,HI.out⟩
   case round=>
    obtain⟨j,hj,rfl,cur,HJ⟩:=hrel
    have HBo:=Hd (HQ.out.b0.bel' HJ.out.bl)
    have HCo:=Hd (HC.out.below (Aa HQ.out.bl HJ.out.bl))
    have z0:wr.cell? ⟨g,0,none⟩=some (.slice (some ⟨b,o,none⟩) n1 cr):=HBo.out.cell 0
    have zl:g<wr.heap.size:=HBo.out.lt
    have x1:wr.cell? ⟨b,o+k*2+1,none⟩=some (.slice xa np xc):=HCo.out.2 1 (show 1<2 by omega)
    have xl:=HCo.out.1
    by_cases hlj:j<np
    ·have hkj:(j:Int)<(np:Int):=by omega
     have hpk:LIn AN Ai w x.pkgs (.slice xa x.pkgs.length xc):=HH.out.2
     obtain⟨b2,o2,rp,ha2,_,hcp0,hp0⟩:=hpk.at_ j (by have:=HX.out;omega)
     obtain⟨p,hp⟩:∃p,p=x.pkgs[j]'(by have:=HX.out;omega):=⟨_,rfl⟩
     rw[←hp]at hcp0 hp0
     subst ha2
     have HP:=Hd (And.intro hp (And.intro hcp0 hp0))
     have HLj:=Hd hlj
     clear hp hcp0 hp0 hpk
     go_upto_region 9 with fail
     have hll:(x.pkgs.take j).length=j:=by rw[List.length_take];have:=HX.out;omega
     have hpm:p∈x.pkgs:=HP.out.1▸List.getElem_mem _
     have hxm:x∈d.repos:=HX.out.1▸List.getElem_mem _
     refine Pw (w0:=w) (g:=g) (gd:=gr) (k:=k) (j:=j) (b:=b) (oo:=o) (n1:=n1) (c1:=cr) (b2:=b2) (o2:=o2) (n2:=np) (c2:=xc) (N0:=gr+1) (p:=p) (r:=rp) (cur:=cur) (l:=x.pkgs.take j) (by kernel_rfl) (by kernel_rfl) rfl rfl rfl rfl HBo.out HCo.out hlt (HP.out.2.1.below (Aa HQ.out.bl HJ.out.bl)) hlj HJ.out.br rfl HP.out.2.2 (Aa HQ.out.bl HJ.out.bl) ((HS.out.pkgs x hxm).2 p hpm) HJ.out.ac (by omega) (by have:=HJ.out.br.lt;omega) (by rw[hll];have:=(HS.out.pkgs x hxm).1;have:=HX.out;omega) (by kernel_rfl) (by kernel_rfl) (by kernel_rfl) (by kernel_rfl) ?_
     intro mid ao cap V' hm k1 k2 k3
     obtain⟨m0,m1,m2,m3,m4,m5,m6,m7,m8,m9,m10,m11,m12,m13,m14,rfl⟩:=OV hm
     rw[hll]at k1 k2
     have HV:Hid (ISt x wo gr (j+1) (.slice ao (j+1) cap) V'):=Hd (by
      refine⟨k2,?_,?_,HJ.out.gw⟩
      ·rw[List.take_succ_eq_append_getElem (by have:=HX.out;omega),←HP.out.1]
       exact k1
      ·refine HJ.out.bl.trans (k3.below HJ.out.bl.size fun b hb hf=> ?_)
       have:=HJ.out.gw
       rcases hf with rfl|hf
       ·omega
       ·obtain⟨_,_,_,hge,_⟩:=HJ.out.ac.ex
        have:=hge b hf
        omega)
     clear hm k1 k2 k3
     simp only[frm,List.take_succ_cons,List.take_zero,List.drop_succ_cons,List.drop_zero,List.cons_append,List.nil_append]
     rename_i hk
     refine hk _ _ ?_
     go_wp2_with fail
     go_roundw
     case rel=>exact⟨j+1,HLj.out,by go_num,_,HV.out⟩
     case measure=>have:=HLj.out;simp[intOf];omega
    ·obtain rfl:j=np:=by omega
     have hl2:(x.pkgs.take j).length=j:=by rw[List.length_take];have:=HX.out;omega
     obtain⟨oa,oc,hcur⟩:∃oa oc,cur= .slice oa j oc:=by
      obtain⟨xs,hown,_⟩:=HJ.out.ac.own
      rw[hl2]at hown
      exact Cl hown
     subst hcur
     obtain⟨xs,hown,hone⟩:=(HQ.out.ac.below HJ.out.bl).own
     have hl3:(d.repos.take k).length=k:=by rw[List.length_take];have:=HN.out;omega
     rw[hl3]at hown
     obtain⟨ao,cp,hxr⟩:=Cl hown
     subst hxr
     have HO4:=Hd hown
     have HN4:=Hd hone
     have HL3:=Hd hl3
     have HXR:=Hd (show∀b,(Value.slice ao k cp).ownBlock=some b→g+3≤b∧b<wo.heap.size from fun b hb=>by
      obtain⟨ps,h1,h2,h3,h4⟩:=HQ.out.ac.ex
      exact⟨h3 b hb,h2.lt b hb⟩)
     have HB2:=Hd (HQ.out.b2.bel' HJ.out.bl)
     have HB1:=Hd (HQ.out.b1.bel' HJ.out.bl)
     have y0:wr.cell? ⟨gr,0,none⟩=some (.int .i64 x.prio):=HJ.out.br.cell 0
     have y1:wr.cell? ⟨gr,1,none⟩=some (.slice oa j oc):=HJ.out.br.cell 1
     have yl:=HJ.out.br.lt
     have u0:wr.cell? ⟨g+2,0,none⟩=some (.slice ao k cp):=HB2.out.cell 0
     have ul:=HB2.out.lt
     have HHr:=Hd (show Az.holds (Am gr) wr x (.slice oa j oc)from by
      have h1:=HJ.out.ac
      have h2:x.pkgs.take j=x.pkgs:=List.take_of_length_le (by have:=HX.out;omega)
      rw[h2]at h1
      exact⟨HH.out.1,(h1.done (by have:=NP HH.out.2;omega) (by decide)).keep (Nat.le_refl _) fun b ⟨j1,j2⟩ _=>⟨rfl,by omega,j2⟩⟩)
     have hkm:k+1≤1048576:=by have:=HS.out.repos;have:=HN.out;omega
     have HKM:=Hd hkm
     clear hown hone hl3 hl2 hkm
     obtain⟨iR,hiR,hz0,hz1,hz2⟩:=Qc
     have HW2:=Hd (Ag wr (.cells #[.int .i64 x.prio,.slice oa j oc] 38))
     go_wp2_with (first
      |(at_builtin;(refine AC _ rfl (.tmp 49) (.tmp 51) _ _ rfl 38 iR _ 2 32 Tryz.underlying39 hiR hz0 hz1 hz2 rfl (by omega) (.slice ao k cp) k xs rfl (HO4.out.alloc _) HN4.out (.slice (some ⟨wr.heap.size,0,none⟩) 1 1) 1 (Az.cells x (Value.slice oa j oc)) rfl (F6 wr x (.slice oa j oc) rfl) (by have:=HKM.out;simp only[maxLen];omega) (by have:=HKM.out;omega) ?_);rintro ao' cap' w7 hn1 hn2 hO7 hg7 hat7 hlt7;have u7:w7.cell? ⟨g+2,0,none⟩=some (.slice ao k cp):=((HB2.out.bel' HW2.out).grown hg7 (fun e=>by have:=HXR.out _ e.symm;omega)).cell 0;have v7:=((HB2.out.bel' HW2.out).grown hg7 (fun e=>by have:=HXR.out _ e.symm;omega)).frozen 0;have l7:=((HB2.out.bel' HW2.out).grown hg7 (fun e=>by have:=HXR.out _ e.symm;omega)).lt;have HZ7:=Hd (And.intro hO7 (And.intro hg7 hat7));clear hn1 hn2 hO7 hg7 hat7 hlt7)
      |fail)
     have HS7:Hid (OSt d w g (.slice (some ⟨b,o,none⟩) n1 cr) (.slice ai n2 ci) (k+1) (.slice ao' (k+1) cap') (w7.setCell ⟨g+2,0,none⟩ (.slice ao' (k+1) cap'))):=Hd (by
      have hgr:=HZ7.out.2.1
      have hne:∀i,i<g+3→some i≠(Value.slice ao k cp).ownBlock:=fun i hi e=>by have:=HXR.out _ e.symm;omega
      have t7:Ae (fun b=>b=g+2∨(Value.slice ao k cp).ownBlock=some b) wo (w7.setCell ⟨g+2,0,none⟩ (.slice ao' (k+1) cap')):=((((Ae.of_below HJ.out.bl _).trans (Ae.of_below HW2.out (fun _=>False)) fun _ _ f=>f.elim)).trans (Ae.of_grown (F:=fun b=>(Value.slice ao k cp).ownBlock=some b) hgr fun q hq=>hq) fun _ _ f=> .inr f).setCell (fun _=> .inl rfl) _
      refine⟨HQ.out.b0.touch t7 (fun hf=> ?_),HQ.out.b1.touch t7 (fun hf=> ?_),?_,?_,HQ.out.bl.trans (t7.below HQ.out.bl.size fun q hq hf=> ?_),HQ.out.gw⟩
      ·rcases hf with hf|hf
       ·omega
       ·exact hne g (by omega) hf.symm
      ·rcases hf with hf|hf
       ·omega
       ·exact hne (g+1) (by omega) hf.symm
      ·exact((HB2.out.bel' HW2.out).grown hgr (hne _ (by omega))).set_ 0 _
      ·have hxe:=HX.out.1
       rw[List.take_succ_eq_append_getElem (by have:=HN.out;omega),←hxe]
       have hpu:=Acc.push (K:=Az) (t:=38) (n0:=g+3) (m0:=gr) (x:=x) (r:=Value.slice oa j oc) (by rw[HL3.out];exact HO4.out.alloc (.cells #[.int .i64 x.prio,.slice oa j oc] 38)) ((HQ.out.ac.below HJ.out.bl).below HW2.out) (by have:=HB2.out.lt;have:=HJ.out.gw;have:=HQ.out.b2.lt;omega) (Az.keep HHr.out HW2.out.size fun b ⟨j1,j2⟩ hb=>⟨HW2.out.block b hb,j1,fun i=>(World.frozen?_of_block (w:=wr) (HW2.out.block b hb)).trans (j2 i)⟩) (fun b hb=>by have:=HXR.out b hb;have:=HJ.out.gw;omega) (by have:=HW2.out.size;have:=HB2.out.lt;omega) (by rw[HL3.out];exact HZ7.out.1) hgr HZ7.out.2.2
       exact hpu.keep (by simp) fun b hb _=>Below.heap_setCell w7 ⟨g+2,0,none⟩ _ b (by show b≠g+2;omega)
      ·have:=HQ.out.gw
       rcases hf with hf|hf
       ·omega
       ·have:=HXR.out q hf
        omega)
     go_roundw
     case rel=>exact⟨k+1,HLt.out,by go_num,_,HS7.out⟩
     case measure=>have:=HLt.out;simp[intOf];omega
  ·obtain rfl:k=n1:=by omega
   have HRl:=Hd (show LIn Az (Am (g+3)) wr d.repos xr from by
    have h1:=HQ.out.ac
    rw[List.take_of_length_le (by have:=HN.out;omega)]at h1
    exact h1.done (by have:=HD.out.repos.bound;omega) (by decide))
   obtain⟨xa,xc,hxr⟩:=HRl.out.form
   have hk1:d.repos.length=k:=HN.out.1.symm
   rw[hk1]at hxr
   subst hxr
   have HT:=Hd (show TSt d w g (.slice ar k cr) (.slice ai n2 ci) (.slice xa k xc) wr 0 nV wr from⟨HQ.out.b0,HQ.out.b1,HQ.out.b2,Acc.nil _ _ _ _,Ae.refl _ _,HQ.out.bl⟩)
   have HG3:=Hd (show g+2<wr.heap.size∧g=w.heap.size from⟨HQ.out.b2.lt,HQ.out.gw⟩)
   clear hk1
   go_wp2_with fail
   clear z0 zl
   obtain⟨w3,rfl⟩:∃w3,w3=wr:=⟨_,rfl⟩
   go_loopw [7] (fun i wx=>∃j:Nat,j≤n2∧i= .int .i64 j∧∃xi,Hid (TSt d w g (.slice ar k cr) (.slice ai n2 ci) (.slice xa k xc) w3 j xi wx)) (fun i _=>n2-(intOf i).toNat)
   case atStart=>exact⟨0,by omega,rfl,_,HT.out⟩
   case round=>
    obtain⟨j,hj,rfl,xi,HJ⟩:=hrel
    have z1:wr.cell? ⟨g,1,none⟩=some (.slice ai n2 ci):=HJ.out.b0.cell 1
    have zl:g<wr.heap.size:=HJ.out.b0.lt
    have hl2:(d.inst.take j).length=j:=by rw[List.length_take];have:=HN.out;omega
    have HL2:=Hd hl2
    have HXI:=Hd (show∀b,xi.ownBlock=some b→w3.heap.size≤b from fun b hb=>by
     obtain⟨_,_,_,h3,_⟩:=HJ.out.ac.ex
     exact h3 b hb)
    clear hl2
    by_cases hlj:j<n2
    ·have hkj:(j:Int)<(n2:Int):=by omega
     obtain⟨b2,o2,rp,ha2,_,hcp0,hp0⟩:=HD.out.inst.at_ j (by have:=HN.out;omega)
     obtain⟨p,hp⟩:∃p,p=d.inst[j]'(by have:=HN.out;omega):=⟨_,rfl⟩
     rw[←hp]at hcp0 hp0
     subst ha2
     have HP:=Hd (And.intro hp (And.intro hcp0 hp0))
     have HLj:=Hd hlj
     clear hp hcp0 hp0
     go_upto_region 14 with fail
     have hpm:p∈d.inst:=HP.out.1▸List.getElem_mem _
     refine NU (w0:=w) (g:=g) (gd:=g+2) (k:=0) (j:=j) (b:=0) (oo:=0) (n1:=0) (c1:=0) (b2:=b2) (o2:=o2) (n2:=n2) (c2:=ci) (N0:=w3.heap.size) (p:=p) (r:=rp) (cur:=xi) (l:=d.inst.take j) (by kernel_rfl) (by kernel_rfl) rfl rfl rfl HJ.out.b0 (HP.out.2.1.below HJ.out.bl) hlj HJ.out.b2 rfl HP.out.2.2 HJ.out.bl (HS.out.inst.2 p hpm) HJ.out.ac (by have:=HG3.out;omega) HJ.out.tc.size (by rw[HL2.out];have:=HS.out.inst.1;have:=HN.out;omega) (by kernel_rfl) (by kernel_rfl) (by kernel_rfl) (by kernel_rfl) ?_
     intro mid ao cap V' hm k1 k2 k3
     obtain⟨m0,m1,m2,m3,m4,m5,m6,m7,m8,m9,m10,rfl⟩:=Ln hm
     rw[HL2.out]at k1 k2
     have HV:Hid (TSt d w g (.slice ar k cr) (.slice (some ⟨b2,o2,none⟩) n2 ci) (.slice xa k xc) w3 (j+1) (.slice ao (j+1) cap) V'):=Hd (by
      have hg3:=HG3.out
      refine⟨HJ.out.b0.touch k3 (fun hf=> ?_),HJ.out.b1.touch k3 (fun hf=> ?_),k2,?_,HJ.out.tc.trans k3 (fun q hq hf=> ?_),HJ.out.bl.trans (k3.below HJ.out.bl.size fun q hq hf=> ?_)⟩
      ·rcases hf with hf|hf
       ·omega
       ·have:=HXI.out _ hf;omega
      ·rcases hf with hf|hf
       ·omega
       ·have:=HXI.out _ hf;omega
      ·rw[List.take_succ_eq_append_getElem (by have:=HN.out;omega),←HP.out.1]
       exact k1
      ·rcases hf with hf|hf
       ·exact hf
       ·have:=HXI.out _ hf;omega
      ·rcases hf with hf|hf
       ·omega
       ·have:=HXI.out _ hf;omega)
     clear hm k1 k2 k3
     simp only[frm,List.take_succ_cons,List.take_zero,List.drop_succ_cons,List.drop_zero,List.cons_append,List.nil_append]
     rename_i hk
     refine hk _ _ ?_
     go_wp2_with fail
     go_roundw
     case rel=>exact⟨j+1,HLj.out,by go_num,_,HV.out⟩
     case measure=>have:=HLj.out;simp[intOf];omega
    ·obtain rfl:j=n2:=by omega
     obtain⟨oa,oc,hxi⟩:∃oa oc,xi= .slice oa j oc:=by
      obtain⟨xs,hown,_⟩:=HJ.out.ac.own
      rw[HL2.out]at hown
      exact Cl hown
     subst hxi
     have x20:wr.cell? ⟨g+2,0,none⟩=some (.slice xa k xc):=HJ.out.b2.cell 0
     have x21:wr.cell? ⟨g+2,1,none⟩=some (.slice oa j oc):=HJ.out.b2.cell 1
     have x2l:=HJ.out.b2.lt
     have x10:wr.cell? ⟨g+1,0,none⟩=some nV:=HJ.out.b1.cell 0
     have x11:wr.cell? ⟨g+1,1,none⟩=some nV:=HJ.out.b1.cell 1
     have f10:=HJ.out.b1.frozen 0
     have f11:=HJ.out.b1.frozen 1
     have x1l:=HJ.out.b1.lt
     go_wp2_with fail
     refine bodyPost_ret (results_cell_row rfl _ _ (g+1) 55 _ (0,0) _ rfl ((HJ.out.b1.set_ 0 (.slice xa k xc)).set_ 1 (.slice oa j oc)) Tryz.underlying55 rfl (by kernel_rfl)) rfl ⟨_,_,rfl,⟨?_,?_⟩,?_⟩
     ·have hg3:=HG3.out
      refine HRl.out.keep (by simp;exact HJ.out.tc.size) fun b ⟨j1,j2⟩ hb=> ?_
      have e1:((wr.setCell ⟨g+1,0,none⟩ (.slice xa k xc)).setCell ⟨g+1,1,none⟩ (.slice oa j oc)).heap[b]?=w3.heap[b]?:=
       ((Below.heap_setCell _ ⟨g+1,1,none⟩ _ b (by show b≠g+1;omega)).trans (Below.heap_setCell _ ⟨g+1,0,none⟩ _ b (by show b≠g+1;omega))).trans (HJ.out.tc.block b hb (by omega))
      exact⟨e1,by omega,fun i=>(World.frozen?_of_block (w:=w3) e1).trans (j2 i)⟩
     ·have hg3:=HG3.out
      have h1:=HJ.out.ac
      rw[List.take_of_length_le (by have:=HN.out;omega)]at h1
      refine(h1.done (by have:=HD.out.inst.bound;omega) (by decide)).keep (by simp) fun b ⟨j1,j2⟩ hb=> ?_
      have e1:((wr.setCell ⟨g+1,0,none⟩ (.slice xa k xc)).setCell ⟨g+1,1,none⟩ (.slice oa j oc)).heap[b]?=wr.heap[b]?:=
       (Below.heap_setCell _ ⟨g+1,1,none⟩ _ b (by show b≠g+1;omega)).trans (Below.heap_setCell _ ⟨g+1,0,none⟩ _ b (by show b≠g+1;omega))
      exact⟨e1,by omega,fun i=>(World.frozen?_of_block (w:=wr) e1).trans (j2 i)⟩
     ·have hg3:=HG3.out
      exact HJ.out.bl.trans (((Ae.refl (fun b=>b=g+1) wr).setCell (fun _=>rfl) _).setCell (fun _=>rfl) _|>.below HJ.out.bl.size fun b hb e=>by omega)
theorem D2 {α:Type} {g:α→Nat} (h:∀x,1≤g x) (l:List α):l.length≤wtL g l:=by
 unfold wtL
 induction l with
 |nil=>simp
 |cons x l ih=>
  have:=h x
  simp only[List.length_cons,List.map_cons,List.sum_cons]
  omega
theorem OL (r:Ac):1≤wtR r:=by
 cases r with
 |nil=>show 1≤8;omega
 |node k d n f=>show 1≤wtD d+3+_;omega
theorem I5 {f:Nat→Nat} (h:∀j,1≤f j):∀n,n≤Bz f n
 |0=>Nat.le_refl _
 |n+1=>Nat.add_le_add (I5 h n) (h n)
theorem Cv (r:Ac):(Ab r).length≤Ee r:=by
 rw[BY]
 unfold Ee
 have:=I5 (f:=fun j=>wtR (r.args j)) (fun j=>OL _) r.n
 omega
theorem Le (d:Ax):1≤wtD d:=by unfold wtD;omega
theorem Hr {p:Aq} (h:wtP p≤1048576):p.small:=by
 have h1:=D2 Le p.prov
 have h2:=D2 Le p.obs
 have h3:=D2 Iq p.files
 have a1:=Cv p.req
 have a2:=Cv p.con
 have a3:=Cv p.reco
 have a4:=Cv p.sup
 have a5:=Cv p.sug
 have a6:=Cv p.enh
 unfold wtP at h
 exact⟨by omega,by omega,fun x hx=>by have:=Dz hx;omega,by omega,fun x hx=>by have:=Dz hx;omega,by omega,by omega,fun x hx=>by have:=Dz hx;omega,by omega,fun x hx=>by have:=Dz hx;omega,by omega,fun x hx=>by have:=Dz hx;omega,by omega,fun x hx=>by have:=Dz hx;omega,by omega⟩
theorem OM (x:AK):1≤wtO x:=by unfold wtO;omega
theorem KV {d:AA} (h:wtA d≤1048576):d.small:=by
 have e:wtA d=wtL wtO d.repos+wtL wtP d.inst+1:=rfl
 have h1:=D2 OM d.repos
 have h2:=D2 Ir d.inst
 refine⟨by omega,fun x hx=> ?_,by omega,fun p hp=>Hr ?_⟩
 ·have h3:=D0 (g:=wtO) hx
  have e2:wtO x=wtL wtP x.pkgs+2:=rfl
  have h4:=D2 Ir x.pkgs
  exact⟨by omega,fun p hp=>Hr (by have:=D0 (g:=wtP) hp;omega)⟩
 ·have:=D0 (g:=wtP) hp
  omega
def EJ:Value→Value→Prop
 | .int k _,v=>∃x,v= .int k x
 | .string _,v=>∃s,v= .string s
 |u,v=>v=u
theorem EJ.refl (v:Value):EJ v v:=by
 cases v<;>first|exact⟨_,rfl⟩|exact rfl
theorem EJ.trans {u v w:Value} (h:EJ u v) (k:EJ v w):EJ u w:=by
 cases u<;>first|(obtain⟨_,rfl⟩:=h;exact k)|(have e:v=_:=h;subst e;exact k)
structure Shp (n0 n1:Nat) (w w':World):Prop where
 tch:Ae (fun b=>n0≤b∧b<n1) w w'
 cell:∀b i v,n0≤b→b<n1→w.cell? ⟨b,i,none⟩=some v→∃v',w'.cell? ⟨b,i,none⟩=some v'∧EJ v v'
 froz:∀b i,n0≤b→b<n1→w'.frozen? ⟨b,i,none⟩=w.frozen? ⟨b,i,none⟩
section
variable {n0 n1:Nat} {w w':World} {b i:Nat}
theorem Shp.refl (n0 n1:Nat) (w:World):Shp n0 n1 w w:=⟨Ae.refl _ _,fun _ _ v _ _ h=>⟨v,h,EJ.refl v⟩,fun _ _ _ _=>rfl⟩
theorem Shp.set {v u:Value} (h:Shp n0 n1 w w') (h0:n0≤b) (h1:b<n1) (hc:w'.cell? ⟨b,i,none⟩=some v) (hl:EJ v u):Shp n0 n1 w (w'.setCell ⟨b,i,none⟩ u):=by
 refine⟨h.tch.setCell (fun _=>⟨h0,h1⟩) u,fun b' i' v' k0 k1 hv=> ?_,fun b' i' k0 k1=> ?_⟩
 ·obtain⟨v2,h2,h3⟩:=h.cell b' i' v' k0 k1 hv
  by_cases e:(⟨b,i,none⟩:Addr)=⟨b',i',none⟩
  ·injection e with e1 e2
   subst e1 e2
   rw[hc]at h2
   injection h2 with h2
   subst h2
   exact⟨u,World.cell?_setCell_same _ _ _ hc,h3.trans hl⟩
  ·exact⟨v2,by rw[World.cell?_setCell_other _ _ _ _ e];exact h2,h3⟩
 ·rw[World.frozen?_setCell]
  exact h.froz b' i' k0 k1
theorem Shp.int {k:IntKind} {x:Int} (h:Shp n0 n1 w w') (h0:n0≤b) (h1:b<n1) (hc:w.cell? ⟨b,i,none⟩=some (.int k x)):∃y,w'.cell? ⟨b,i,none⟩=some (.int k y):=by
 obtain⟨v,h2,x',rfl⟩:=h.cell b i _ h0 h1 hc
 exact⟨x',h2⟩
theorem Shp.slice {a:Option Addr} {n c:Nat} (h:Shp n0 n1 w w') (h0:n0≤b) (h1:b<n1) (hc:w.cell? ⟨b,i,none⟩=some (.slice a n c)):w'.cell? ⟨b,i,none⟩=some (.slice a n c):=by
 obtain⟨v,h2,h3⟩:=h.cell b i _ h0 h1 hc
 rw[h2]
 exact congrArg some h3
end
theorem AR.out {n0 n1:Nat} {B:World→Nat→Prop} {w w':World} {d:AA} {vr vi:Value} (h:AR B w d vr vi) (hs:Shp n0 n1 w w') (hB:∀b,B w b→b<w.heap.size→¬(n0≤b∧b<n1)):AR Ai w' d vr vi:=
 h.keep hs.tch.size fun b k1 k2=>⟨hs.tch.block b k2 (hB b k1 k2),trivial⟩
end Go.Proofs.YtdpjjnbelgaagaaGreatDoor
