/- The document's Same of data. Conditions: as each theorem names them. -/
import Derived.Test.YtdpjjnbelgaagaaGreatDoorG16
import Derived.StillTailTactics
import Derived.Deep.CutRange
namespace Go.Proofs.YtdpjjnbelgaagaaGreatDoor
set_option maxHeartbeats 32000000
open Go.ChangeShapes Go.WideShapes Go.ChangeAt Go.RowKit Go.Deep
set_option maxRecDepth 100000
def Bf (x y:AK):Bool:=decide (x.prio=y.prio) && eqL Ak x.pkgs y.pkgs
def Bm (a b:AA):Bool:=eqL Ak a.inst b.inst && eqL Bf a.repos b.repos
theorem Ma {a b:AA} (h:¬a.repos.length=b.repos.length):Bm a b=false:=by unfold Bm;rw[CO h,Bool.and_false]
theorem L9 {a b:AA} (h:¬a.inst.length=b.inst.length):Bm a b=false:=by unfold Bm;rw[CO h,Bool.false_and]
theorem L8 {a b:AA} {j:Nat} (h1:j<a.inst.length) (h2:j<b.inst.length) (h:Ak a.inst[j] b.inst[j]=false):Bm a b=false:=by unfold Bm;rw[BP h1 h2 h,Bool.false_and]
theorem E2 {a b:AA} {j:Nat} (h1:j<a.repos.length) (h2:j<b.repos.length) (h:Bf a.repos[j] b.repos[j]=false):Bm a b=false:=by unfold Bm;rw[BP h1 h2 h,Bool.and_false]
theorem L7 {a b:AA} (h1:eqL Ak a.inst b.inst=true) (h2:eqL Bf a.repos b.repos=true):Bm a b=true:=by unfold Bm;rw[h1,h2];rfl
theorem AR.bl {w w':World} {d:AA} {vr vi:Value} (h:AR Ai w d vr vi) (hB:Below w.heap.size w w'):AR Ai w' d vr vi:=h.keep hB.size fun b _ hb=>⟨hB.block b hb,trivial⟩
theorem Ah.bl {w w':World} {d:Aq} {r:AE} (h:Ah Ai w d r) (hB:Below w.heap.size w w'):Ah Ai w' d r:=h.keep hB.size fun b _ hb=>⟨hB.block b hb,trivial⟩
theorem Dq (w:World) (t:TypeId) (A B:Array Value):Hid (Blk ((w.alloc (.cells A t)).alloc (.cells B t)).drew w.heap.size t A∧Blk ((w.alloc (.cells A t)).alloc (.cells B t)).drew (w.heap.size+1) t B∧Below w.heap.size w ((w.alloc (.cells A t)).alloc (.cells B t)).drew):=by
 have hb1:=Ag w (.cells A t)
 have hb2:=Ag (w.alloc (.cells A t)) (.cells B t)
 have hx1:=Blk.new w t A
 have hx2:=Blk.new (w.alloc (.cells A t)) t B
 rw[World.size_alloc]at hx2
 have hd:=(Below.refl ((w.alloc (.cells A t)).alloc (.cells B t)).heap.size ((w.alloc (.cells A t)).alloc (.cells B t))).drew
 have hy1:=hx1.below hb2 hx1.lt
 exact⟨hy1.below hd hy1.lt,hx2.below hd hx2.lt,(Aa hb1 hb2).drew⟩
theorem I1 (w:World) (t:TypeId) (A B:Array Value):Hid (Blk ((w.alloc (.cells A t)).alloc (.cells B t)).drew (w.heap.size+1) t B∧Blk ((w.alloc (.cells A t)).alloc (.cells B t)).drew w.heap.size t A∧Below w.heap.size w ((w.alloc (.cells A t)).alloc (.cells B t)).drew):=
 ⟨(Dq w t A B).out.2.1,(Dq w t A B).out.1,(Dq w t A B).out.2.2⟩
theorem Iv (a b:AA) (n m:Nat) (hn1:a.repos.length=n) (hn2:b.repos.length=n) (hm1:a.inst.length=m) (hm2:b.inst.length=m) (ar ai br bi:Option Addr) (cr ci dr di:Nat) (w:World)
 (ha:AR Ai w a (.slice ar n cr) (.slice ai m ci)) (hb:AR Ai w b (.slice br n dr) (.slice bi m di)):
 Calls Tryz.prog 24 #[.agg #[.slice ar n cr,.slice ai m ci],.agg #[.slice br n dr,.slice bi m di]] w fun e w'=>e= .returned (.bool (Bm a b))∧Below w.heap.size w w':=by
 have HAr:=Hd (show LIn Az Ai w a.repos (.slice ar a.repos.length cr)from hn1▸ha.repos)
 have HBr:=Hd (show LIn Az Ai w b.repos (.slice br b.repos.length dr)from hn2▸hb.repos)
 have HAi:=Hd (show LIn AN Ai w a.inst (.slice ai a.inst.length ci)from hm1▸ha.inst)
 have HBi:=Hd (show LIn AN Ai w b.inst (.slice bi b.inst.length di)from hm2▸hb.inst)
 have hnb:n≤4611686018427387904:=by have:=HAr.out.bound;omega
 have hmb:m≤4611686018427387904:=by have:=HAi.out.bound;omega
 have HLn:=Hd (show a.repos.length=n∧b.repos.length=n∧a.inst.length=m∧b.inst.length=m from⟨hn1,hn2,hm1,hm2⟩)
 clear ha hb hn1 hn2 hm1 hm2
 obtain⟨T,hT⟩:∃T,T=Bm a b:=⟨_,rfl⟩
 rw[←hT]
 have HT:=Hd hT
 clear hT
 obtain⟨g,hg⟩:∃g,g=w.heap.size:=⟨_,rfl⟩
 obtain⟨W,hW⟩:∃W,W=(w.alloc (.cells #[.slice ar n cr,.slice ai m ci] 55)).alloc (.cells #[.slice br n dr,.slice bi m di] 55):=⟨_,rfl⟩
 have HX:=Hd (show Blk W g 55 #[.slice ar n cr,.slice ai m ci]∧Blk W (g+1) 55 #[.slice br n dr,.slice bi m di]∧Below w.heap.size w W from by
  have hb1:=Ag w (.cells #[.slice ar n cr,.slice ai m ci] 55)
  have hb2:=Ag (w.alloc (.cells #[.slice ar n cr,.slice ai m ci] 55)) (.cells #[.slice br n dr,.slice bi m di] 55)
  have hx1:=Blk.new w 55 #[.slice ar n cr,.slice ai m ci]
  have hx2:=Blk.new (w.alloc (.cells #[.slice ar n cr,.slice ai m ci] 55)) 55 #[.slice br n dr,.slice bi m di]
  rw[World.size_alloc]at hx2
  rw[hW,hg]
  exact⟨hx1.below hb2 hx1.lt,hx2,Aa hb1 hb2⟩)
 have d0:W.cell? ⟨g,0,none⟩=some (.slice ar n cr):=HX.out.1.cell 0
 have d1:W.cell? ⟨g,1,none⟩=some (.slice ai m ci):=HX.out.1.cell 1
 have d2:W.cell? ⟨g+1,0,none⟩=some (.slice br n dr):=HX.out.2.1.cell 0
 have d3:W.cell? ⟨g+1,1,none⟩=some (.slice bi m di):=HX.out.2.1.cell 1
 have dl:g<W.heap.size:=HX.out.1.lt
 have dl':g+1<W.heap.size:=HX.out.2.1.lt
 have HS0:=Hd (show Below W.heap.size W ((w.alloc (.cells #[.slice ar n cr,.slice ai m ci] 55)).alloc (.cells #[.slice br n dr,.slice bi m di] 55))from hW▸Below.refl _ _)
 go_enter Tryz.func24,Tryz.ntmps24
 go_upto_region 1 with fail
 rw[←hg,←hW]
 have HG:=Hd hg
 clear hW hg HS0
 go_wp2_with fail
 go_loopw [5] (fun i wr=>∃k:Nat,k≤m∧i= .int .i64 k∧Hid ((∀j (h1:j<a.inst.length) (h2:j<b.inst.length),j<k→Ak a.inst[j] b.inst[j]=true)∧Below W.heap.size W wr)) (fun i wr=>m-(intOf i).toNat)
 case atStart=>exact⟨0,by omega,rfl,⟨fun j _ _ h=>absurd h (Nat.not_lt_zero j),Below.refl _ _⟩⟩
 case round=>
  obtain⟨k,hk,rfl,HQ⟩:=hrel
  have e1:wr.cell? ⟨g,1,none⟩=some (.slice ai m ci):=(HX.out.1.below HQ.out.2 HX.out.1.lt).cell 1
  have el:g<wr.heap.size:=(HX.out.1.below HQ.out.2 HX.out.1.lt).lt
  have HXb:=Hd (show Blk wr g 55 #[.slice ar n cr,.slice ai m ci]∧Blk wr (g+1) 55 #[.slice br n dr,.slice bi m di]from⟨HX.out.1.below HQ.out.2 HX.out.1.lt,HX.out.2.1.below HQ.out.2 HX.out.2.1.lt⟩)
  by_cases hlt:k<m
  ·have hki:(k:Int)<(m:Int):=by omega
   obtain⟨b1,o1,r1,ha1,_,hcs1,hh1⟩:=HAi.out.at_ k (by have:=HLn.out;omega)
   obtain⟨b2,o2,r2,ha2,_,hcs2,hh2⟩:=HBi.out.at_ k (by have:=HLn.out;omega)
   obtain⟨x,hx⟩:∃x,x=a.inst[k]'(by have:=HLn.out;omega):=⟨_,rfl⟩
   obtain⟨y,hy⟩:∃y,y=b.inst[k]'(by have:=HLn.out;omega):=⟨_,rfl⟩
   rw[←hx]at hcs1 hh1
   rw[←hy]at hcs2 hh2
   have HXY:=Hd (show∀(h1:k<a.inst.length) (h2:k<b.inst.length),a.inst[k]=x∧b.inst[k]=y from fun _ _=>⟨hx.symm,hy.symm⟩)
   subst ha1 ha2
   dsimp only[AN]at hcs1 hcs2 r1 r2
   rcases r1 with ⟨u0,u1,u2,u3,u4,u5,u6,u7,u8⟩
   rcases r2 with ⟨v0,v1,v2,v3,v4,v5,v6,v7,v8⟩
   have hi1:Ah Ai w x ⟨u0,u1,u2,u3,u4,u5,u6,u7,u8⟩:=hh1
   have hi2:Ah Ai w y ⟨v0,v1,v2,v3,v4,v5,v6,v7,v8⟩:=hh2
   obtain⟨xa0,xc0,(rfl:u0=_)⟩:=hi1.prov.form
   obtain⟨ya0,yc0,(rfl:v0=_)⟩:=hi2.prov.form
   obtain⟨xa1,xc1,(rfl:u1=_)⟩:=hi1.req.form
   obtain⟨ya1,yc1,(rfl:v1=_)⟩:=hi2.req.form
   obtain⟨xa2,xc2,(rfl:u2=_)⟩:=hi1.con.form
   obtain⟨ya2,yc2,(rfl:v2=_)⟩:=hi2.con.form
   obtain⟨xa3,xc3,(rfl:u3=_)⟩:=hi1.obs.form
   obtain⟨ya3,yc3,(rfl:v3=_)⟩:=hi2.obs.form
   obtain⟨xa4,xc4,(rfl:u4=_)⟩:=hi1.reco.form
   obtain⟨ya4,yc4,(rfl:v4=_)⟩:=hi2.reco.form
   obtain⟨xa5,xc5,(rfl:u5=_)⟩:=hi1.sup.form
   obtain⟨ya5,yc5,(rfl:v5=_)⟩:=hi2.sup.form
   obtain⟨xa6,xc6,(rfl:u6=_)⟩:=hi1.sug.form
   obtain⟨ya6,yc6,(rfl:v6=_)⟩:=hi2.sug.form
   obtain⟨xa7,xc7,(rfl:u7=_)⟩:=hi1.enh.form
   obtain⟨ya7,yc7,(rfl:v7=_)⟩:=hi2.enh.form
   obtain⟨xa8,xc8,(rfl:u8=_)⟩:=hi1.files.form
   obtain⟨ya8,yc8,(rfl:v8=_)⟩:=hi2.files.form
   have HFr:=Hd (show Below w.heap.size w wr from Aa HX.out.2.2 HQ.out.2)
   have HLt:=Hd hlt
   have hd1:=hcs1.below HFr.out
   have hd2:=hcs2.below HFr.out
   obtain⟨bb,hbb⟩:∃bb,bb=Ak x y:=⟨_,rfl⟩
   have HBb:=Hd hbb
   have HM:=Hd (show∀w',Below wr.heap.size wr w'→Calls Tryz.prog 54 #[.agg #[.string x.name,.int .i64 x.ep,.string x.ver,.string x.rel,.int .u8 x.arch,.string x.vendor,.slice xa0 x.prov.length xc0,.slice xa1 (Ab x.req).length xc1,.slice xa2 (Ab x.con).length xc2,.slice xa3 x.obs.length xc3,.slice xa4 (Ab x.reco).length xc4,.slice xa5 (Ab x.sup).length xc5,.slice xa6 (Ab x.sug).length xc6,.slice xa7 (Ab x.enh).length xc7,.slice xa8 x.files.length xc8],.agg #[.string y.name,.int .i64 y.ep,.string y.ver,.string y.rel,.int .u8 y.arch,.string y.vendor,.slice ya0 y.prov.length yc0,.slice ya1 (Ab y.req).length yc1,.slice ya2 (Ab y.con).length yc2,.slice ya3 y.obs.length yc3,.slice ya4 (Ab y.reco).length yc4,.slice ya5 (Ab y.sup).length yc5,.slice ya6 (Ab y.sug).length yc6,.slice ya7 (Ab y.enh).length yc7,.slice ya8 y.files.length yc8]] w' fun e w''=>e= .returned (.bool bb)∧Below w'.heap.size w' w'' from fun w' h=>by
    rw[hbb]
    exact Fw x y ⟨.slice xa0 x.prov.length xc0,.slice xa1 (Ab x.req).length xc1,.slice xa2 (Ab x.con).length xc2,.slice xa3 x.obs.length xc3,.slice xa4 (Ab x.reco).length xc4,.slice xa5 (Ab x.sup).length xc5,.slice xa6 (Ab x.sug).length xc6,.slice xa7 (Ab x.enh).length xc7,.slice xa8 x.files.length xc8⟩ ⟨.slice ya0 y.prov.length yc0,.slice ya1 (Ab y.req).length yc1,.slice ya2 (Ab y.con).length yc2,.slice ya3 y.obs.length yc3,.slice ya4 (Ab y.reco).length yc4,.slice ya5 (Ab y.sup).length yc5,.slice ya6 (Ab y.sug).length yc6,.slice ya7 (Ab y.enh).length yc7,.slice ya8 y.files.length yc8⟩ w' (hi1.keep (Aa HFr.out h).size fun b _ hb=>⟨(Aa HFr.out h).block b hb,trivial⟩) (hi2.keep (Aa HFr.out h).size fun b _ hb=>⟨(Aa HFr.out h).block b hb,trivial⟩))
   have HDr:=Hd (show Below wr.heap.size wr wr.drew from(Below.refl _ wr).drew)
   have x0:wr.cell? ⟨b1,o1+k*15,none⟩=some (.string x.name):=hd1.2 0 (show 0<15 by omega)
   have y0:wr.cell? ⟨b2,o2+k*15,none⟩=some (.string y.name):=hd2.2 0 (show 0<15 by omega)
   have x1:wr.cell? ⟨b1,o1+k*15+1,none⟩=some (.int .i64 x.ep):=hd1.2 1 (show 1<15 by omega)
   have y1:wr.cell? ⟨b2,o2+k*15+1,none⟩=some (.int .i64 y.ep):=hd2.2 1 (show 1<15 by omega)
   have x2:wr.cell? ⟨b1,o1+k*15+2,none⟩=some (.string x.ver):=hd1.2 2 (show 2<15 by omega)
   have y2:wr.cell? ⟨b2,o2+k*15+2,none⟩=some (.string y.ver):=hd2.2 2 (show 2<15 by omega)
   have x3:wr.cell? ⟨b1,o1+k*15+3,none⟩=some (.string x.rel):=hd1.2 3 (show 3<15 by omega)
   have y3:wr.cell? ⟨b2,o2+k*15+3,none⟩=some (.string y.rel):=hd2.2 3 (show 3<15 by omega)
   have x4:wr.cell? ⟨b1,o1+k*15+4,none⟩=some (.int .u8 x.arch):=hd1.2 4 (show 4<15 by omega)
   have y4:wr.cell? ⟨b2,o2+k*15+4,none⟩=some (.int .u8 y.arch):=hd2.2 4 (show 4<15 by omega)
   have x5:wr.cell? ⟨b1,o1+k*15+5,none⟩=some (.string x.vendor):=hd1.2 5 (show 5<15 by omega)
   have y5:wr.cell? ⟨b2,o2+k*15+5,none⟩=some (.string y.vendor):=hd2.2 5 (show 5<15 by omega)
   have x6:wr.cell? ⟨b1,o1+k*15+6,none⟩=some (.slice xa0 x.prov.length xc0):=hd1.2 6 (show 6<15 by omega)
   have y6:wr.cell? ⟨b2,o2+k*15+6,none⟩=some (.slice ya0 y.prov.length yc0):=hd2.2 6 (show 6<15 by omega)
   have x7:wr.cell? ⟨b1,o1+k*15+7,none⟩=some (.slice xa1 (Ab x.req).length xc1):=hd1.2 7 (show 7<15 by omega)
   have y7:wr.cell? ⟨b2,o2+k*15+7,none⟩=some (.slice ya1 (Ab y.req).length yc1):=hd2.2 7 (show 7<15 by omega)
   have x8:wr.cell? ⟨b1,o1+k*15+8,none⟩=some (.slice xa2 (Ab x.con).length xc2):=hd1.2 8 (show 8<15 by omega)
   have y8:wr.cell? ⟨b2,o2+k*15+8,none⟩=some (.slice ya2 (Ab y.con).length yc2):=hd2.2 8 (show 8<15 by omega)
   have x9:wr.cell? ⟨b1,o1+k*15+9,none⟩=some (.slice xa3 x.obs.length xc3):=hd1.2 9 (show 9<15 by omega)
   have y9:wr.cell? ⟨b2,o2+k*15+9,none⟩=some (.slice ya3 y.obs.length yc3):=hd2.2 9 (show 9<15 by omega)
   have x10:wr.cell? ⟨b1,o1+k*15+10,none⟩=some (.slice xa4 (Ab x.reco).length xc4):=hd1.2 10 (show 10<15 by omega)
   have y10:wr.cell? ⟨b2,o2+k*15+10,none⟩=some (.slice ya4 (Ab y.reco).length yc4):=hd2.2 10 (show 10<15 by omega)
   have x11:wr.cell? ⟨b1,o1+k*15+11,none⟩=some (.slice xa5 (Ab x.sup).length xc5):=hd1.2 11 (show 11<15 by omega)
   have y11:wr.cell? ⟨b2,o2+k*15+11,none⟩=some (.slice ya5 (Ab y.sup).length yc5):=hd2.2 11 (show 11<15 by omega)
   have x12:wr.cell? ⟨b1,o1+k*15+12,none⟩=some (.slice xa6 (Ab x.sug).length xc6):=hd1.2 12 (show 12<15 by omega)
   have y12:wr.cell? ⟨b2,o2+k*15+12,none⟩=some (.slice ya6 (Ab y.sug).length yc6):=hd2.2 12 (show 12<15 by omega)
   have x13:wr.cell? ⟨b1,o1+k*15+13,none⟩=some (.slice xa7 (Ab x.enh).length xc7):=hd1.2 13 (show 13<15 by omega)
   have y13:wr.cell? ⟨b2,o2+k*15+13,none⟩=some (.slice ya7 (Ab y.enh).length yc7):=hd2.2 13 (show 13<15 by omega)
   have x14:wr.cell? ⟨b1,o1+k*15+14,none⟩=some (.slice xa8 x.files.length xc8):=hd1.2 14 (show 14<15 by omega)
   have y14:wr.cell? ⟨b2,o2+k*15+14,none⟩=some (.slice ya8 y.files.length yc8):=hd2.2 14 (show 14<15 by omega)
   have z0:wr.cell? ⟨g,1,none⟩=some (.slice (some ⟨b1,o1,none⟩) m ci):=(HXb.out.1).cell 1
   have zl0:=(HXb.out.1).lt
   have z1:wr.cell? ⟨g+1,1,none⟩=some (.slice (some ⟨b2,o2,none⟩) m di):=(HXb.out.2).cell 1
   have zl1:=(HXb.out.2).lt
   have p1:=hd1.1
   have p2:=hd2.1
   clear hcs1 hcs2 hh1 hh2 hd1 hd2 hx hy hbb hi1 hi2
   go_upto_region 6 with fail
   go_still_tail 10,(by kernel_rfl)
   change wpList _ _ _ _ _ wr.drew
   cases bb with
   |true=>
    go_wp2_with (first
     |(go_at_call 54;(with_reducible refine(HM.out _ HDr.out).mono ?_);rintro e w1 ⟨rfl,HBc⟩;have HDr:=Hd (Aa HDr.out HBc);clear HBc)
     |fail)
    have HRw:=Hd (show Below W.heap.size W w1 from Aa HQ.out.2 HDr.out)
    go_roundw
    case rel=>exact⟨k+1,by have:=HLt.out;omega,by go_num,⟨fun j h1 h2 h3=>by
     by_cases hj:j<k
     ·exact HQ.out.1 j h1 h2 hj
     ·obtain rfl:j=k:=by omega
      obtain⟨e1,e2⟩:=HXY.out h1 h2
      rw[e1,e2]
      exact HBb.out.symm,HRw.out⟩⟩
    case measure=>simp[intOf];omega
   |false=>
    go_wp2_with (first
     |(go_at_call 54;(with_reducible refine(HM.out _ HDr.out).mono ?_);rintro e w1 ⟨rfl,HBc⟩;have HDr:=Hd (Aa HDr.out HBc);clear HBc)
     |fail)
    have HRx:=Hd (show Below w.heap.size w w1 from Aa HFr.out HDr.out)
    have HT2:=Hd (show T=false by
     rw[HT.out]
     have h1:k<a.inst.length:=by have:=HLn.out;have:=HLt.out;omega
     have h2:k<b.inst.length:=by have:=HLn.out;have:=HLt.out;omega
     obtain⟨e1,e2⟩:=HXY.out h1 h2
     exact L8 h1 h2 (by rw[e1,e2];exact HBb.out.symm))
    go_ret
    exact⟨Af HT2.out.symm,HRx.out⟩
  ·obtain rfl:m=k:=by omega
   have HI:=Hd (show eqL Ak a.inst b.inst=true from(Bp _ _ _).2 ⟨by have:=HLn.out;omega,fun j h1 h2=>HQ.out.1 j h1 h2 (by have:=HLn.out;omega)⟩)
   have HQ0:=Hd (show Below w.heap.size w wr from Aa HX.out.2.2 HQ.out.2)
   clear HQ hk
   go_wp2_with fail
   clear e1
   obtain⟨V,hV⟩:∃V,V=wr:=⟨_,rfl⟩
   rw[←hV]at el HXb HQ0 ⊢
   have HSV:=Hd (show Below V.heap.size V wr from hV▸Below.refl _ _)
   clear hV
   go_loopw [6] (fun i wr=>∃k:Nat,k≤n∧i= .int .i64 k∧Hid ((∀j (h1:j<a.repos.length) (h2:j<b.repos.length),j<k→Bf a.repos[j] b.repos[j]=true)∧Below V.heap.size V wr)) (fun i wr=>n-(intOf i).toNat)
   case atStart=>exact⟨0,by omega,rfl,⟨fun j _ _ h=>absurd h (Nat.not_lt_zero j),Below.refl _ _⟩⟩
   case round=>
    obtain⟨kk,hk,rfl,HQ⟩:=hrel
    have HXc:=Hd (show Blk wr g 55 #[.slice ar n cr,.slice ai m ci]∧Blk wr (g+1) 55 #[.slice br n dr,.slice bi m di]from⟨HXb.out.1.below HQ.out.2 HXb.out.1.lt,HXb.out.2.below HQ.out.2 HXb.out.2.lt⟩)
    have e0:wr.cell? ⟨g,0,none⟩=some (.slice ar n cr):=HXc.out.1.cell 0
    have e2:wr.cell? ⟨g+1,0,none⟩=some (.slice br n dr):=HXc.out.2.cell 0
    have el:g<wr.heap.size:=HXc.out.1.lt
    have el':g+1<wr.heap.size:=HXc.out.2.lt
    have HFr:=Hd (show Below w.heap.size w wr from Aa HQ0.out HQ.out.2)
    by_cases hlt:kk<n
    ·have hki:(kk:Int)<(n:Int):=by omega
     obtain⟨B1,O1,r1,ha1,_,hcs1,hh1⟩:=HAr.out.at_ kk (by have:=HLn.out;omega)
     obtain⟨B2,O2,r2,ha2,_,hcs2,hh2⟩:=HBr.out.at_ kk (by have:=HLn.out;omega)
     obtain⟨rx,hx⟩:∃x,x=a.repos[kk]'(by have:=HLn.out;omega):=⟨_,rfl⟩
     obtain⟨ry,hy⟩:∃y,y=b.repos[kk]'(by have:=HLn.out;omega):=⟨_,rfl⟩
     rw[←hx]at hcs1 hh1
     rw[←hy]at hcs2 hh2
     have HXY:=Hd (show∀(h1:kk<a.repos.length) (h2:kk<b.repos.length),a.repos[kk]=rx∧b.repos[kk]=ry from fun _ _=>⟨hx.symm,hy.symm⟩)
     subst ha1 ha2
     dsimp only[Az]at hcs1 hcs2 hh1 hh2 r1 r2
     obtain⟨xa,xc,rfl⟩:=hh1.2.form
     obtain⟨ya,yc,rfl⟩:=hh2.2.form
     have hp1:=hh1.2
     have hp2:=hh2.2
     have hq1:=hh1.2.bound
     have hd1:=hcs1.below HFr.out
     have hd2:=hcs2.below HFr.out
     have x0:wr.cell? ⟨B1,O1+kk*2,none⟩=some (.int .i64 rx.prio):=hd1.2 0 (show 0<2 by omega)
     have x1:wr.cell? ⟨B1,O1+kk*2+1,none⟩=some (.slice xa rx.pkgs.length xc):=hd1.2 1 (show 1<2 by omega)
     have y0:wr.cell? ⟨B2,O2+kk*2,none⟩=some (.int .i64 ry.prio):=hd2.2 0 (show 0<2 by omega)
     have y1:wr.cell? ⟨B2,O2+kk*2+1,none⟩=some (.slice ya ry.pkgs.length yc):=hd2.2 1 (show 1<2 by omega)
     have p1:=hd1.1
     have p2:=hd2.1
     have HLk:=Hd hlt
     clear hcs1 hcs2 hh1 hh2 hd1 hd2 hx hy
     by_cases hpr:rx.prio=ry.prio
     ·by_cases hl:rx.pkgs.length=ry.pkgs.length
      ·obtain⟨q,hq⟩:∃q,q=rx.pkgs.length:=⟨_,rfl⟩
       have HLq:=Hd (show rx.pkgs.length=q∧ry.pkgs.length=q∧rx.prio=ry.prio from⟨hq.symm,by omega,hpr⟩)
       have HP1:=Hd hp1
       have HP2:=Hd hp2
       rw[←hq]at x1 hq1
       rw[←hl,←hq]at y1
       rw[←hpr]at y0
       clear hp1 hp2 hl hq hpr
       obtain⟨pr,hpr⟩:∃pr,pr=rx.prio:=⟨_,rfl⟩
       rw[←hpr]at x0 y0
       have HPr:=Hd hpr
       clear hpr
       go_upto_region 11 with fail
       go_cut [7,8]from 45 to 94 (fun s7 s8 wx=>∃g7 g8:Nat,s7= .pointer (some ⟨g7,0,none⟩)∧s8= .pointer (some ⟨g8,0,none⟩)∧Hid (Blk wx g7 38 #[.int .i64 pr,.slice xa q xc]∧Blk wx g8 38 #[.int .i64 pr,.slice ya q yc]∧Below wr.heap.size wr wx))
       case first=>
        go_region
        all_goals
         go_wp2_with fail
         go_meet
         case rel=>first|exact⟨_,_,rfl,rfl,Dq _ _ _ _⟩|exact⟨_,_,rfl,rfl,I1 _ _ _ _⟩
       case rest=>
        obtain⟨g7,g8,rfl,rfl,HZ⟩:=hcut
        have z0:wc.cell? ⟨g7,0,none⟩=some (.int .i64 pr):=HZ.out.1.cell 0
        have z1:wc.cell? ⟨g7,1,none⟩=some (.slice xa q xc):=HZ.out.1.cell 1
        have z2:wc.cell? ⟨g8,0,none⟩=some (.int .i64 pr):=HZ.out.2.1.cell 0
        have z3:wc.cell? ⟨g8,1,none⟩=some (.slice ya q yc):=HZ.out.2.1.cell 1
        have zl:=HZ.out.1.lt
        have zl':=HZ.out.2.1.lt
        have HFc:=Hd (show Below w.heap.size w wc from Aa HFr.out HZ.out.2.2)
        have HVc:=Hd (show Below V.heap.size V wc from Aa HQ.out.2 HZ.out.2.2)
        have HQk:=Hd HQ.out.1
        clear x0 x1 y0 y1 p1 p2 e0 e2 el el' HQ
        go_wp2_with fail
        go_loopw [9] (fun i wr=>∃k:Nat,k≤q∧i= .int .i64 k∧Hid ((∀j (h1:j<rx.pkgs.length) (h2:j<ry.pkgs.length),j<k→Ak rx.pkgs[j] ry.pkgs[j]=true)∧Below wc.heap.size wc wr)) (fun i wr=>q-(intOf i).toNat)
        case atStart=>exact⟨0,by omega,rfl,⟨fun j _ _ h=>absurd h (Nat.not_lt_zero j),Below.refl _ _⟩⟩
        case round=>
         obtain⟨k,hkq,rfl,HQ⟩:=hrel
         have HXd:=Hd (show Blk wr g7 38 #[.int .i64 pr,.slice xa q xc]∧Blk wr g8 38 #[.int .i64 pr,.slice ya q yc]from⟨HZ.out.1.below HQ.out.2 HZ.out.1.lt,HZ.out.2.1.below HQ.out.2 HZ.out.2.1.lt⟩)
         have e1:wr.cell? ⟨g7,1,none⟩=some (.slice xa q xc):=HXd.out.1.cell 1
         have el:g7<wr.heap.size:=HXd.out.1.lt
         by_cases hlt:k<q
         ·have hki:(k:Int)<(q:Int):=by omega
          have HXYo:=Hd HXY.out
          have HPq1:=Hd (show LIn AN Ai w rx.pkgs (.slice xa rx.pkgs.length xc)from HP1.out)
          have HPq2:=Hd (show LIn AN Ai w ry.pkgs (.slice ya ry.pkgs.length yc)from HP2.out)
          obtain⟨b1,o1,r1,ha1,_,hcs1,hh1⟩:=HPq1.out.at_ k (by have:=HLq.out;omega)
          obtain⟨b2,o2,r2,ha2,_,hcs2,hh2⟩:=HPq2.out.at_ k (by have:=HLq.out;omega)
          obtain⟨x,hx⟩:∃x,x=rx.pkgs[k]'(by have:=HLq.out;omega):=⟨_,rfl⟩
          obtain⟨y,hy⟩:∃y,y=ry.pkgs[k]'(by have:=HLq.out;omega):=⟨_,rfl⟩
          rw[←hx]at hcs1 hh1
          rw[←hy]at hcs2 hh2
          have HXY:=Hd (show∀(h1:k<rx.pkgs.length) (h2:k<ry.pkgs.length),rx.pkgs[k]=x∧ry.pkgs[k]=y from fun _ _=>⟨hx.symm,hy.symm⟩)
          subst ha1 ha2
          dsimp only[AN]at hcs1 hcs2 r1 r2
          rcases r1 with ⟨u0,u1,u2,u3,u4,u5,u6,u7,u8⟩
          rcases r2 with ⟨v0,v1,v2,v3,v4,v5,v6,v7,v8⟩
          have hi1:Ah Ai w x ⟨u0,u1,u2,u3,u4,u5,u6,u7,u8⟩:=hh1
          have hi2:Ah Ai w y ⟨v0,v1,v2,v3,v4,v5,v6,v7,v8⟩:=hh2
          obtain⟨xa0,xc0,(rfl:u0=_)⟩:=hi1.prov.form
          obtain⟨ya0,yc0,(rfl:v0=_)⟩:=hi2.prov.form
          obtain⟨xa1,xc1,(rfl:u1=_)⟩:=hi1.req.form
          obtain⟨ya1,yc1,(rfl:v1=_)⟩:=hi2.req.form
          obtain⟨xa2,xc2,(rfl:u2=_)⟩:=hi1.con.form
          obtain⟨ya2,yc2,(rfl:v2=_)⟩:=hi2.con.form
          obtain⟨xa3,xc3,(rfl:u3=_)⟩:=hi1.obs.form
          obtain⟨ya3,yc3,(rfl:v3=_)⟩:=hi2.obs.form
          obtain⟨xa4,xc4,(rfl:u4=_)⟩:=hi1.reco.form
          obtain⟨ya4,yc4,(rfl:v4=_)⟩:=hi2.reco.form
          obtain⟨xa5,xc5,(rfl:u5=_)⟩:=hi1.sup.form
          obtain⟨ya5,yc5,(rfl:v5=_)⟩:=hi2.sup.form
          obtain⟨xa6,xc6,(rfl:u6=_)⟩:=hi1.sug.form
          obtain⟨ya6,yc6,(rfl:v6=_)⟩:=hi2.sug.form
          obtain⟨xa7,xc7,(rfl:u7=_)⟩:=hi1.enh.form
          obtain⟨ya7,yc7,(rfl:v7=_)⟩:=hi2.enh.form
          obtain⟨xa8,xc8,(rfl:u8=_)⟩:=hi1.files.form
          obtain⟨ya8,yc8,(rfl:v8=_)⟩:=hi2.files.form
          have HFr:=Hd (show Below w.heap.size w wr from Aa HFc.out HQ.out.2)
          have HLt:=Hd hlt
          have hd1:=hcs1.below HFr.out
          have hd2:=hcs2.below HFr.out
          obtain⟨bb,hbb⟩:∃bb,bb=Ak x y:=⟨_,rfl⟩
          have HBb:=Hd hbb
          have HM:=Hd (show∀w',Below wr.heap.size wr w'→Calls Tryz.prog 54 #[.agg #[.string x.name,.int .i64 x.ep,.string x.ver,.string x.rel,.int .u8 x.arch,.string x.vendor,.slice xa0 x.prov.length xc0,.slice xa1 (Ab x.req).length xc1,.slice xa2 (Ab x.con).length xc2,.slice xa3 x.obs.length xc3,.slice xa4 (Ab x.reco).length xc4,.slice xa5 (Ab x.sup).length xc5,.slice xa6 (Ab x.sug).length xc6,.slice xa7 (Ab x.enh).length xc7,.slice xa8 x.files.length xc8],.agg #[.string y.name,.int .i64 y.ep,.string y.ver,.string y.rel,.int .u8 y.arch,.string y.vendor,.slice ya0 y.prov.length yc0,.slice ya1 (Ab y.req).length yc1,.slice ya2 (Ab y.con).length yc2,.slice ya3 y.obs.length yc3,.slice ya4 (Ab y.reco).length yc4,.slice ya5 (Ab y.sup).length yc5,.slice ya6 (Ab y.sug).length yc6,.slice ya7 (Ab y.enh).length yc7,.slice ya8 y.files.length yc8]] w' fun e w''=>e= .returned (.bool bb)∧Below w'.heap.size w' w'' from fun w' h=>by
           rw[hbb]
           exact Fw x y ⟨.slice xa0 x.prov.length xc0,.slice xa1 (Ab x.req).length xc1,.slice xa2 (Ab x.con).length xc2,.slice xa3 x.obs.length xc3,.slice xa4 (Ab x.reco).length xc4,.slice xa5 (Ab x.sup).length xc5,.slice xa6 (Ab x.sug).length xc6,.slice xa7 (Ab x.enh).length xc7,.slice xa8 x.files.length xc8⟩ ⟨.slice ya0 y.prov.length yc0,.slice ya1 (Ab y.req).length yc1,.slice ya2 (Ab y.con).length yc2,.slice ya3 y.obs.length yc3,.slice ya4 (Ab y.reco).length yc4,.slice ya5 (Ab y.sup).length yc5,.slice ya6 (Ab y.sug).length yc6,.slice ya7 (Ab y.enh).length yc7,.slice ya8 y.files.length yc8⟩ w' (hi1.keep (Aa HFr.out h).size fun b _ hb=>⟨(Aa HFr.out h).block b hb,trivial⟩) (hi2.keep (Aa HFr.out h).size fun b _ hb=>⟨(Aa HFr.out h).block b hb,trivial⟩))
          have HDr:=Hd (show Below wr.heap.size wr wr.drew from(Below.refl _ wr).drew)
          have x0:wr.cell? ⟨b1,o1+k*15,none⟩=some (.string x.name):=hd1.2 0 (show 0<15 by omega)
          have y0:wr.cell? ⟨b2,o2+k*15,none⟩=some (.string y.name):=hd2.2 0 (show 0<15 by omega)
          have x1:wr.cell? ⟨b1,o1+k*15+1,none⟩=some (.int .i64 x.ep):=hd1.2 1 (show 1<15 by omega)
          have y1:wr.cell? ⟨b2,o2+k*15+1,none⟩=some (.int .i64 y.ep):=hd2.2 1 (show 1<15 by omega)
          have x2:wr.cell? ⟨b1,o1+k*15+2,none⟩=some (.string x.ver):=hd1.2 2 (show 2<15 by omega)
          have y2:wr.cell? ⟨b2,o2+k*15+2,none⟩=some (.string y.ver):=hd2.2 2 (show 2<15 by omega)
          have x3:wr.cell? ⟨b1,o1+k*15+3,none⟩=some (.string x.rel):=hd1.2 3 (show 3<15 by omega)
          have y3:wr.cell? ⟨b2,o2+k*15+3,none⟩=some (.string y.rel):=hd2.2 3 (show 3<15 by omega)
          have x4:wr.cell? ⟨b1,o1+k*15+4,none⟩=some (.int .u8 x.arch):=hd1.2 4 (show 4<15 by omega)
          have y4:wr.cell? ⟨b2,o2+k*15+4,none⟩=some (.int .u8 y.arch):=hd2.2 4 (show 4<15 by omega)
          have x5:wr.cell? ⟨b1,o1+k*15+5,none⟩=some (.string x.vendor):=hd1.2 5 (show 5<15 by omega)
          have y5:wr.cell? ⟨b2,o2+k*15+5,none⟩=some (.string y.vendor):=hd2.2 5 (show 5<15 by omega)
          have x6:wr.cell? ⟨b1,o1+k*15+6,none⟩=some (.slice xa0 x.prov.length xc0):=hd1.2 6 (show 6<15 by omega)
          have y6:wr.cell? ⟨b2,o2+k*15+6,none⟩=some (.slice ya0 y.prov.length yc0):=hd2.2 6 (show 6<15 by omega)
          have x7:wr.cell? ⟨b1,o1+k*15+7,none⟩=some (.slice xa1 (Ab x.req).length xc1):=hd1.2 7 (show 7<15 by omega)
          have y7:wr.cell? ⟨b2,o2+k*15+7,none⟩=some (.slice ya1 (Ab y.req).length yc1):=hd2.2 7 (show 7<15 by omega)
          have x8:wr.cell? ⟨b1,o1+k*15+8,none⟩=some (.slice xa2 (Ab x.con).length xc2):=hd1.2 8 (show 8<15 by omega)
          have y8:wr.cell? ⟨b2,o2+k*15+8,none⟩=some (.slice ya2 (Ab y.con).length yc2):=hd2.2 8 (show 8<15 by omega)
          have x9:wr.cell? ⟨b1,o1+k*15+9,none⟩=some (.slice xa3 x.obs.length xc3):=hd1.2 9 (show 9<15 by omega)
          have y9:wr.cell? ⟨b2,o2+k*15+9,none⟩=some (.slice ya3 y.obs.length yc3):=hd2.2 9 (show 9<15 by omega)
          have x10:wr.cell? ⟨b1,o1+k*15+10,none⟩=some (.slice xa4 (Ab x.reco).length xc4):=hd1.2 10 (show 10<15 by omega)
          have y10:wr.cell? ⟨b2,o2+k*15+10,none⟩=some (.slice ya4 (Ab y.reco).length yc4):=hd2.2 10 (show 10<15 by omega)
          have x11:wr.cell? ⟨b1,o1+k*15+11,none⟩=some (.slice xa5 (Ab x.sup).length xc5):=hd1.2 11 (show 11<15 by omega)
          have y11:wr.cell? ⟨b2,o2+k*15+11,none⟩=some (.slice ya5 (Ab y.sup).length yc5):=hd2.2 11 (show 11<15 by omega)
          have x12:wr.cell? ⟨b1,o1+k*15+12,none⟩=some (.slice xa6 (Ab x.sug).length xc6):=hd1.2 12 (show 12<15 by omega)
          have y12:wr.cell? ⟨b2,o2+k*15+12,none⟩=some (.slice ya6 (Ab y.sug).length yc6):=hd2.2 12 (show 12<15 by omega)
          have x13:wr.cell? ⟨b1,o1+k*15+13,none⟩=some (.slice xa7 (Ab x.enh).length xc7):=hd1.2 13 (show 13<15 by omega)
          have y13:wr.cell? ⟨b2,o2+k*15+13,none⟩=some (.slice ya7 (Ab y.enh).length yc7):=hd2.2 13 (show 13<15 by omega)
          have x14:wr.cell? ⟨b1,o1+k*15+14,none⟩=some (.slice xa8 x.files.length xc8):=hd1.2 14 (show 14<15 by omega)
          have y14:wr.cell? ⟨b2,o2+k*15+14,none⟩=some (.slice ya8 y.files.length yc8):=hd2.2 14 (show 14<15 by omega)
          have z0:wr.cell? ⟨g7,1,none⟩=some (.slice (some ⟨b1,o1,none⟩) q xc):=(HXd.out.1).cell 1
          have zl0:=(HXd.out.1).lt
          have z1:wr.cell? ⟨g8,1,none⟩=some (.slice (some ⟨b2,o2,none⟩) q yc):=(HXd.out.2).cell 1
          have zl1:=(HXd.out.2).lt
          have p1:=hd1.1
          have p2:=hd2.1
          clear hcs1 hcs2 hh1 hh2 hd1 hd2 hx hy hbb hi1 hi2
          go_upto_region 17 with fail
          go_still_tail 10,(by kernel_rfl)
          change wpList _ _ _ _ _ wr.drew
          cases bb with
          |true=>
           go_wp2_with (first
            |(go_at_call 54;(with_reducible refine(HM.out _ HDr.out).mono ?_);rintro e w1 ⟨rfl,HBc⟩;have HDr:=Hd (Aa HDr.out HBc);clear HBc)
            |fail)
           have HRw:=Hd (show Below wc.heap.size wc w1 from Aa HQ.out.2 HDr.out)
           go_roundw
           case rel=>exact⟨k+1,by have:=HLt.out;omega,by go_num,⟨fun j h1 h2 h3=>by
            by_cases hj:j<k
            ·exact HQ.out.1 j h1 h2 hj
            ·obtain rfl:j=k:=by omega
             obtain⟨e1,e2⟩:=HXY.out h1 h2
             rw[e1,e2]
             exact HBb.out.symm,HRw.out⟩⟩
           case measure=>simp[intOf];omega
          |false=>
           go_wp2_with (first
            |(go_at_call 54;(with_reducible refine(HM.out _ HDr.out).mono ?_);rintro e w1 ⟨rfl,HBc⟩;have HDr:=Hd (Aa HDr.out HBc);clear HBc)
            |fail)
           have HRx:=Hd (show Below w.heap.size w w1 from Aa HFr.out HDr.out)
           have HT2:=Hd (show T=false by
            rw[HT.out]
            have h1:kk<a.repos.length:=by have:=HLn.out;have:=HLk.out;omega
            have h2:kk<b.repos.length:=by have:=HLn.out;have:=HLk.out;omega
            obtain⟨e1,e2⟩:=HXYo.out h1 h2
            refine E2 h1 h2 ?_
            rw[e1,e2]
            have h3:k<rx.pkgs.length:=by have:=HLq.out;have:=HLt.out;omega
            have h4:k<ry.pkgs.length:=by have:=HLq.out;have:=HLt.out;omega
            obtain⟨e3,e4⟩:=HXY.out h3 h4
            unfold Bf
            rw[BP h3 h4 (by rw[e3,e4];exact HBb.out.symm),Bool.and_false])
           go_ret
           exact⟨Af HT2.out.symm,HRx.out⟩
         ·obtain rfl:q=k:=by omega
          have HE:=Hd (show Bf rx ry=true from by
           unfold Bf
           rw[(Bp _ _ _).2 ⟨by have:=HLq.out;omega,fun j h1 h2=>HQ.out.1 j h1 h2 (by have:=HLq.out;omega)⟩,HLq.out.2.2]
           simp)
          have HVw:=Hd (show Below V.heap.size V wr from Aa HVc.out HQ.out.2)
          clear HQ
          go_wp2_with fail
          go_roundw
          case rel=>exact⟨kk+1,by have:=HLk.out;omega,by go_num,⟨fun j h1 h2 h3=>by
           by_cases hj:j<kk
           ·exact HQk.out j h1 h2 hj
           ·obtain rfl:j=kk:=by omega
            obtain⟨e1,e2⟩:=HXY.out h1 h2
            rw[e1,e2]
            exact HE.out,HVw.out⟩⟩
          case measure=>have:=HLk.out;simp[intOf];omega
      ·have hl2:¬(rx.pkgs.length:Int)=(ry.pkgs.length:Int):=by omega
       have HT2:=Hd (show T=false by
        rw[HT.out]
        have h1:kk<a.repos.length:=by have:=HLn.out;have:=HLk.out;omega
        have h2:kk<b.repos.length:=by have:=HLn.out;have:=HLk.out;omega
        obtain⟨e1,e2⟩:=HXY.out h1 h2
        exact E2 h1 h2 (by rw[e1,e2];unfold Bf;rw[CO hl,Bool.and_false]))
       clear hp1 hp2
       go_upto_region 11 with fail
       go_region
       all_goals go_wp2_with fail
       all_goals go_ret
       all_goals exact⟨Af HT2.out.symm,Aa HFr.out (Dq _ _ _ _).out.2.2⟩
     ·have HPn:=Hd hpr
      have HT2:=Hd (show T=false by
       rw[HT.out]
       have h1:kk<a.repos.length:=by have:=HLn.out;have:=HLk.out;omega
       have h2:kk<b.repos.length:=by have:=HLn.out;have:=HLk.out;omega
       obtain⟨e1,e2⟩:=HXY.out h1 h2
       exact E2 h1 h2 (by rw[e1,e2];unfold Bf;rw[decide_eq_false hpr,Bool.false_and]))
      clear hp1 hp2
      go_upto_region 11 with fail
      go_region
      all_goals go_wp2_with fail
      all_goals go_ret
      all_goals exact⟨Af HT2.out.symm,Aa HFr.out (Dq _ _ _ _).out.2.2⟩
    ·obtain rfl:n=kk:=by omega
     have HT2:=Hd (show T=true by rw[HT.out];exact L7 HI.out ((Bp _ _ _).2 ⟨by have:=HLn.out;omega,fun j h1 h2=>HQ.out.1 j h1 h2 (by have:=HLn.out;omega)⟩))
     go_wp2_with fail
     go_ret
     exact⟨Af HT2.out.symm,HFr.out⟩
theorem Ft (a b:AA) (hl:a.repos.length=b.repos.length→¬a.inst.length=b.inst.length) (ar ai br bi:Option Addr) (cr ci dr di:Nat) (w:World):
 Calls Tryz.prog 24 #[.agg #[.slice ar a.repos.length cr,.slice ai a.inst.length ci],.agg #[.slice br b.repos.length dr,.slice bi b.inst.length di]] w fun e w'=>e= .returned (.bool (Bm a b))∧Below w.heap.size w w':=by
 have HB:=Hd (Aa (Ag w (.cells #[.slice ar a.repos.length cr,.slice ai a.inst.length ci] 55)) (Ag (w.alloc (.cells #[.slice ar a.repos.length cr,.slice ai a.inst.length ci] 55)) (.cells #[.slice br b.repos.length dr,.slice bi b.inst.length di] 55)))
 obtain⟨T,hT⟩:∃T,T=Bm a b:=⟨_,rfl⟩
 rw[←hT]
 by_cases h1:a.repos.length=b.repos.length
 ·have h2:=hl h1
  have HT2:=Hd (show T=false by rw[hT];exact L9 h2)
  have h3:¬(a.inst.length:Int)=(b.inst.length:Int):=by omega
  clear hT hl h2
  rw[h1]at HB ⊢
  clear h1
  go_enter Tryz.func24,Tryz.ntmps24
  go_wp2_with fail
  go_ret
  exact⟨Af HT2.out.symm,HB.out⟩
 ·have HT2:=Hd (show T=false by rw[hT];exact Ma h1)
  have h3:¬(a.repos.length:Int)=(b.repos.length:Int):=by omega
  clear hT hl h1
  go_enter Tryz.func24,Tryz.ntmps24
  go_wp2_with fail
  go_ret
  exact⟨Af HT2.out.symm,HB.out⟩
theorem Db (a b:AA) (vr vi ur ui:Value) (w:World) (ha:AR Ai w a vr vi) (hb:AR Ai w b ur ui):
 Calls Tryz.prog 24 #[.agg #[vr,vi],.agg #[ur,ui]] w fun e w'=>e= .returned (.bool (Bm a b))∧Below w.heap.size w w':=by
 obtain⟨ar,cr,rfl⟩:=ha.repos.form
 obtain⟨ai,ci,rfl⟩:=ha.inst.form
 obtain⟨br,dr,rfl⟩:=hb.repos.form
 obtain⟨bi,di,rfl⟩:=hb.inst.form
 by_cases h1:a.repos.length=b.repos.length
 ·by_cases h2:a.inst.length=b.inst.length
  ·rw[←h1,←h2]at hb ⊢
   exact Iv a b _ _ rfl h1.symm rfl h2.symm ar ai br bi cr ci dr di w ha hb
  ·exact Ft a b (fun _=>h2) ar ai br bi cr ci dr di w
 ·exact Ft a b (fun h=>absurd h h1) ar ai br bi cr ci dr di w
end Go.Proofs.YtdpjjnbelgaagaaGreatDoor
