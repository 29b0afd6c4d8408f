/- pkg.Same. Conditions: as each theorem names them. -/
import Derived.Test.YtdpjjnbelgaagaaGreatDoorG22
import Derived.Test.YtdpjjnbelgaagaaGreatDoorG23
import Derived.Test.YtdpjjnbelgaagaaGreatDoorG24
import Derived.Test.YtdpjjnbelgaagaaGreatDoorG20
import Derived.Test.YtdpjjnbelgaagaaGreatDoorG21
namespace Go.Proofs.YtdpjjnbelgaagaaGreatDoor
open Go.ChangeShapes Go.WideShapes Go.ChangeAt Go.RowKit Go.Deep
set_option maxRecDepth 100000
theorem MG (p q:Aq) (rp rq:AE) (w:World) (hp:Ah Ai w p rp) (hq:Ah Ai w q rq):Calls Tryz.prog 51 #[p.val rp,q.val rq] w fun e w'=>e= .returned (.bool (Ak p q))∧Below w.heap.size w w':=by
 by_cases e0:p.name.toList=q.name.toList
 ·by_cases e1:p.ep=q.ep
  ·by_cases e2:p.ver.toList=q.ver.toList
   ·by_cases e3:p.rel.toList=q.rel.toList
    ·by_cases e4:p.arch=q.arch
     ·by_cases e5:p.vendor.toList=q.vendor.toList
      ·exact Po p q rp rq w hp hq e0 e1 e2 e3 e4 e5
      ·exact Pp p q rp rq w hp hq e0 e1 e2 e3 e4 e5
     ·exact Pq p q rp rq w hp hq e0 e1 e2 e3 e4
    ·exact Pr p q rp rq w hp hq e0 e1 e2 e3
   ·exact Ps p q rp rq w hp hq e0 e1 e2
  ·exact Pt p q rp rq w hp hq e0 e1
 ·exact Pu p q rp rq w hp hq e0
set_option maxHeartbeats 32000000
theorem JQ (a b:List Aq) (va vb:Value) (w:World) (ha:LIn AN Ai w a va) (hb:LIn AN Ai w b vb):Calls Tryz.prog 50 #[va,vb,.func (.func 51) #[] #[]] w fun e w'=>e= .returned (.bool (eqL Ak a b))∧Below w.heap.size w w':=by
 obtain⟨a1,c1,rfl⟩:=ha.form
 obtain⟨a2,c2,rfl⟩:=hb.form
 have hn1:=ha.bound
 have hn2:=hb.bound
 have HA:=Hd ha
 have HB:=Hd hb
 obtain⟨T,hT⟩:∃T,T=eqL Ak a b:=⟨_,rfl⟩
 rw[←hT]
 have HT:=Hd hT
 clear ha hb hT
 by_cases hnn:a.length=b.length
 ·have HNN:=Hd hnn
  obtain⟨n,hn⟩:∃n,n=a.length:=⟨_,rfl⟩
  have HLn:=Hd (show a.length=n∧b.length=n from⟨hn.symm,by omega⟩)
  rw[←hnn,←hn]
  rw[←hn]at hn1
  clear hn2 hnn hn
  go_enter Tryz.func50,Tryz.ntmps50
  go_wp2_with fail
  go_loopw [17] (fun i wr=>∃k:Nat,k≤n∧i= .int .i64 k∧Hid ((∀j (h1:j<a.length) (h2:j<b.length),j<k→Ak a[j] b[j]=true)∧Below w.heap.size w wr)) (fun i wr=>n-(intOf i).toNat)
  case atStart=>exact⟨0,by omega,rfl,⟨fun j _ _ h=>absurd h (Nat.not_lt_zero j),Below.refl _ _⟩⟩
  case round=>
   obtain⟨k,hk,rfl,HQ⟩:=hrel
   by_cases hlt:k<n
   ·have hki:(k:Int)<(n:Int):=by omega
    obtain⟨b1,o1,r1,ha1,_,hcs1,hh1⟩:=HA.out.at_ k (by have:=HLn.out;omega)
    have hvb:Value.slice a2 n c2= .slice a2 b.length c2:=by rw[HLn.out.2]
    obtain⟨b2,o2,r2,ha2,_,hcs2,hh2⟩:=HB.out.at_ k (by have:=HLn.out;omega)
    obtain⟨x,hx⟩:∃x,x=a[k]'(by have:=HLn.out;omega):=⟨_,rfl⟩
    obtain⟨y,hy⟩:∃y,y=b[k]'(by have:=HLn.out;omega):=⟨_,rfl⟩
    rw[←hx]at hcs1 hh1
    rw[←hy]at hcs2 hh2
    have HXY:=Hd (show∀(h1:k<a.length) (h2:k<b.length),a[k]=x∧b[k]=y from fun _ _=>⟨hx.symm,hy.symm⟩)
    subst ha1 ha2
    dsimp only[AN]at hcs1 hcs2 hh1 hh2 r1 r2
    rcases r1 with ⟨u0,u1,u2,u3,u4,u5,u6,u7,u8⟩
    rcases r2 with ⟨v0,v1,v2,v3,v4,v5,v6,v7,v8⟩
    have hi1:Ah Ai w x ⟨u0,u1,u2,u3,u4,u5,u6,u7,u8⟩:=hh1
    have hi2:Ah Ai w y ⟨v0,v1,v2,v3,v4,v5,v6,v7,v8⟩:=hh2
    obtain⟨xa0,xc0,(rfl:u0=_)⟩:=hi1.prov.form
    obtain⟨ya0,yc0,(rfl:v0=_)⟩:=hi2.prov.form
    obtain⟨xa1,xc1,(rfl:u1=_)⟩:=hi1.req.form
    obtain⟨ya1,yc1,(rfl:v1=_)⟩:=hi2.req.form
    obtain⟨xa2,xc2,(rfl:u2=_)⟩:=hi1.con.form
    obtain⟨ya2,yc2,(rfl:v2=_)⟩:=hi2.con.form
    obtain⟨xa3,xc3,(rfl:u3=_)⟩:=hi1.obs.form
    obtain⟨ya3,yc3,(rfl:v3=_)⟩:=hi2.obs.form
    obtain⟨xa4,xc4,(rfl:u4=_)⟩:=hi1.reco.form
    obtain⟨ya4,yc4,(rfl:v4=_)⟩:=hi2.reco.form
    obtain⟨xa5,xc5,(rfl:u5=_)⟩:=hi1.sup.form
    obtain⟨ya5,yc5,(rfl:v5=_)⟩:=hi2.sup.form
    obtain⟨xa6,xc6,(rfl:u6=_)⟩:=hi1.sug.form
    obtain⟨ya6,yc6,(rfl:v6=_)⟩:=hi2.sug.form
    obtain⟨xa7,xc7,(rfl:u7=_)⟩:=hi1.enh.form
    obtain⟨ya7,yc7,(rfl:v7=_)⟩:=hi2.enh.form
    obtain⟨xa8,xc8,(rfl:u8=_)⟩:=hi1.files.form
    obtain⟨ya8,yc8,(rfl:v8=_)⟩:=hi2.files.form
    have HFr:=Hd HQ.out.2
    have HLt:=Hd hlt
    have hd1:=hcs1.below HFr.out
    have hd2:=hcs2.below HFr.out
    obtain⟨w2,hw2⟩:∃w2,w2=(wr.alloc (.cells #[.string x.name,.int .i64 x.ep,.string x.ver,.string x.rel,.int .u8 x.arch,.string x.vendor,.slice xa0 x.prov.length xc0,.slice xa1 (Ab x.req).length xc1,.slice xa2 (Ab x.con).length xc2,.slice xa3 x.obs.length xc3,.slice xa4 (Ab x.reco).length xc4,.slice xa5 (Ab x.sup).length xc5,.slice xa6 (Ab x.sug).length xc6,.slice xa7 (Ab x.enh).length xc7,.slice xa8 x.files.length xc8] 29)).alloc (.cells #[.string y.name,.int .i64 y.ep,.string y.ver,.string y.rel,.int .u8 y.arch,.string y.vendor,.slice ya0 y.prov.length yc0,.slice ya1 (Ab y.req).length yc1,.slice ya2 (Ab y.con).length yc2,.slice ya3 y.obs.length yc3,.slice ya4 (Ab y.reco).length yc4,.slice ya5 (Ab y.sup).length yc5,.slice ya6 (Ab y.sug).length yc6,.slice ya7 (Ab y.enh).length yc7,.slice ya8 y.files.length yc8] 29):=⟨_,rfl⟩
    have hbn:Below wr.heap.size wr w2:=by rw[hw2];exact Aa (Ag _ _) (Ag _ _)
    have HB3:=Hd (Aa HFr.out hbn)
    obtain⟨bb,hbb⟩:∃bb,bb=Ak x y:=⟨_,rfl⟩
    have HM:=Hd (show Calls Tryz.prog 51 #[.agg #[.string x.name,.int .i64 x.ep,.string x.ver,.string x.rel,.int .u8 x.arch,.string x.vendor,.slice xa0 x.prov.length xc0,.slice xa1 (Ab x.req).length xc1,.slice xa2 (Ab x.con).length xc2,.slice xa3 x.obs.length xc3,.slice xa4 (Ab x.reco).length xc4,.slice xa5 (Ab x.sup).length xc5,.slice xa6 (Ab x.sug).length xc6,.slice xa7 (Ab x.enh).length xc7,.slice xa8 x.files.length xc8],.agg #[.string y.name,.int .i64 y.ep,.string y.ver,.string y.rel,.int .u8 y.arch,.string y.vendor,.slice ya0 y.prov.length yc0,.slice ya1 (Ab y.req).length yc1,.slice ya2 (Ab y.con).length yc2,.slice ya3 y.obs.length yc3,.slice ya4 (Ab y.reco).length yc4,.slice ya5 (Ab y.sup).length yc5,.slice ya6 (Ab y.sug).length yc6,.slice ya7 (Ab y.enh).length yc7,.slice ya8 y.files.length yc8]] w2 fun e w''=>e= .returned (.bool bb)∧Below w2.heap.size w2 w'' from by
     rw[hbb]
     exact MG x y ⟨.slice xa0 x.prov.length xc0,.slice xa1 (Ab x.req).length xc1,.slice xa2 (Ab x.con).length xc2,.slice xa3 x.obs.length xc3,.slice xa4 (Ab x.reco).length xc4,.slice xa5 (Ab x.sup).length xc5,.slice xa6 (Ab x.sug).length xc6,.slice xa7 (Ab x.enh).length xc7,.slice xa8 x.files.length xc8⟩ ⟨.slice ya0 y.prov.length yc0,.slice ya1 (Ab y.req).length yc1,.slice ya2 (Ab y.con).length yc2,.slice ya3 y.obs.length yc3,.slice ya4 (Ab y.reco).length yc4,.slice ya5 (Ab y.sup).length yc5,.slice ya6 (Ab y.sug).length yc6,.slice ya7 (Ab y.enh).length yc7,.slice ya8 y.files.length yc8⟩ w2 (hi1.bl (Aa HFr.out hbn)) (hi2.bl (Aa HFr.out hbn)))
    rw[hw2]at HM HB3
    have HBb:=Hd hbb
    have x0:wr.cell? ⟨b1,o1+k*15,none⟩=some (.string x.name):=hd1.2 0 (show 0<15 by omega)
    have y0:wr.cell? ⟨b2,o2+k*15,none⟩=some (.string y.name):=hd2.2 0 (show 0<15 by omega)
    have x1:wr.cell? ⟨b1,o1+k*15+1,none⟩=some (.int .i64 x.ep):=hd1.2 1 (show 1<15 by omega)
    have y1:wr.cell? ⟨b2,o2+k*15+1,none⟩=some (.int .i64 y.ep):=hd2.2 1 (show 1<15 by omega)
    have x2:wr.cell? ⟨b1,o1+k*15+2,none⟩=some (.string x.ver):=hd1.2 2 (show 2<15 by omega)
    have y2:wr.cell? ⟨b2,o2+k*15+2,none⟩=some (.string y.ver):=hd2.2 2 (show 2<15 by omega)
    have x3:wr.cell? ⟨b1,o1+k*15+3,none⟩=some (.string x.rel):=hd1.2 3 (show 3<15 by omega)
    have y3:wr.cell? ⟨b2,o2+k*15+3,none⟩=some (.string y.rel):=hd2.2 3 (show 3<15 by omega)
    have x4:wr.cell? ⟨b1,o1+k*15+4,none⟩=some (.int .u8 x.arch):=hd1.2 4 (show 4<15 by omega)
    have y4:wr.cell? ⟨b2,o2+k*15+4,none⟩=some (.int .u8 y.arch):=hd2.2 4 (show 4<15 by omega)
    have x5:wr.cell? ⟨b1,o1+k*15+5,none⟩=some (.string x.vendor):=hd1.2 5 (show 5<15 by omega)
    have y5:wr.cell? ⟨b2,o2+k*15+5,none⟩=some (.string y.vendor):=hd2.2 5 (show 5<15 by omega)
    have x6:wr.cell? ⟨b1,o1+k*15+6,none⟩=some (.slice xa0 x.prov.length xc0):=hd1.2 6 (show 6<15 by omega)
    have y6:wr.cell? ⟨b2,o2+k*15+6,none⟩=some (.slice ya0 y.prov.length yc0):=hd2.2 6 (show 6<15 by omega)
    have x7:wr.cell? ⟨b1,o1+k*15+7,none⟩=some (.slice xa1 (Ab x.req).length xc1):=hd1.2 7 (show 7<15 by omega)
    have y7:wr.cell? ⟨b2,o2+k*15+7,none⟩=some (.slice ya1 (Ab y.req).length yc1):=hd2.2 7 (show 7<15 by omega)
    have x8:wr.cell? ⟨b1,o1+k*15+8,none⟩=some (.slice xa2 (Ab x.con).length xc2):=hd1.2 8 (show 8<15 by omega)
    have y8:wr.cell? ⟨b2,o2+k*15+8,none⟩=some (.slice ya2 (Ab y.con).length yc2):=hd2.2 8 (show 8<15 by omega)
    have x9:wr.cell? ⟨b1,o1+k*15+9,none⟩=some (.slice xa3 x.obs.length xc3):=hd1.2 9 (show 9<15 by omega)
    have y9:wr.cell? ⟨b2,o2+k*15+9,none⟩=some (.slice ya3 y.obs.length yc3):=hd2.2 9 (show 9<15 by omega)
    have x10:wr.cell? ⟨b1,o1+k*15+10,none⟩=some (.slice xa4 (Ab x.reco).length xc4):=hd1.2 10 (show 10<15 by omega)
    have y10:wr.cell? ⟨b2,o2+k*15+10,none⟩=some (.slice ya4 (Ab y.reco).length yc4):=hd2.2 10 (show 10<15 by omega)
    have x11:wr.cell? ⟨b1,o1+k*15+11,none⟩=some (.slice xa5 (Ab x.sup).length xc5):=hd1.2 11 (show 11<15 by omega)
    have y11:wr.cell? ⟨b2,o2+k*15+11,none⟩=some (.slice ya5 (Ab y.sup).length yc5):=hd2.2 11 (show 11<15 by omega)
    have x12:wr.cell? ⟨b1,o1+k*15+12,none⟩=some (.slice xa6 (Ab x.sug).length xc6):=hd1.2 12 (show 12<15 by omega)
    have y12:wr.cell? ⟨b2,o2+k*15+12,none⟩=some (.slice ya6 (Ab y.sug).length yc6):=hd2.2 12 (show 12<15 by omega)
    have x13:wr.cell? ⟨b1,o1+k*15+13,none⟩=some (.slice xa7 (Ab x.enh).length xc7):=hd1.2 13 (show 13<15 by omega)
    have y13:wr.cell? ⟨b2,o2+k*15+13,none⟩=some (.slice ya7 (Ab y.enh).length yc7):=hd2.2 13 (show 13<15 by omega)
    have x14:wr.cell? ⟨b1,o1+k*15+14,none⟩=some (.slice xa8 x.files.length xc8):=hd1.2 14 (show 14<15 by omega)
    have y14:wr.cell? ⟨b2,o2+k*15+14,none⟩=some (.slice ya8 y.files.length yc8):=hd2.2 14 (show 14<15 by omega)
    have p1:=hd1.1
    have p2:=hd2.1
    clear hcs1 hcs2 hh1 hh2 hd1 hd2 hx hy hvb hw2 hbn hbb
    cases bb with
    |true=>
     go_wp2_with (first
      |(go_at_call 51;(with_reducible refine(HM.out).mono ?_);rintro e w1 ⟨rfl,HBc⟩;have HB1:=Hd (Aa HB3.out HBc);clear HBc)
      |fail)
     go_roundw
     case rel=>exact⟨k+1,by have:=HLt.out;omega,by go_num,⟨fun j h1 h2 h3=>by
      by_cases hj:j<k
      ·exact HQ.out.1 j h1 h2 hj
      ·obtain rfl:j=k:=by omega
       obtain⟨e1,e2⟩:=HXY.out h1 h2
       rw[e1,e2]
       exact HBb.out.symm,HB1.out⟩⟩
     case measure=>simp[intOf];omega
    |false=>
     have HT2:=Hd (show T=false by
      rw[HT.out]
      have h1:k<a.length:=by have:=HLn.out;have:=HLt.out;omega
      have h2:k<b.length:=by have:=HLn.out;have:=HLt.out;omega
      obtain⟨e1,e2⟩:=HXY.out h1 h2
      exact BP h1 h2 (by rw[e1,e2];exact HBb.out.symm))
     go_wp2_with (first
      |(go_at_call 51;(with_reducible refine(HM.out).mono ?_);rintro e w1 ⟨rfl,HBc⟩;have HB1:=Hd (Aa HB3.out HBc);clear HBc)
      |fail)
     go_ret
     exact⟨Af HT2.out.symm,HB1.out⟩
   ·obtain rfl:k=n:=by omega
    have HT2:=Hd (show T=true by rw[HT.out];exact(Bp _ _ _).2 ⟨HNN.out,fun j h1 h2=>HQ.out.1 j h1 h2 (by have:=HLn.out;omega)⟩)
    go_wp2_with fail
    go_ret
    exact⟨Af HT2.out.symm,HQ.out.2⟩
 ·have h1:¬(a.length:Int)=(b.length:Int):=by omega
  have HT2:=Hd (show T=false by rw[HT.out];exact CO hnn)
  clear hnn
  go_enter Tryz.func50,Tryz.ntmps50
  go_wp2_with fail
  go_ret
  exact⟨Af HT2.out.symm,Below.refl _ _⟩
theorem K6 (x y:AK) (vx vy:Value) (w:World) (hx:LIn AN Ai w x.pkgs vx) (hy:LIn AN Ai w y.pkgs vy):
 Calls Tryz.prog 53 #[.agg #[.int .i64 x.prio,vx],.agg #[.int .i64 y.prio,vy]] w fun e w'=>e= .returned (.bool (Bf x y))∧Below w.heap.size w w':=by
 obtain⟨a1,c1,rfl⟩:=hx.form
 obtain⟨a2,c2,rfl⟩:=hy.form
 obtain⟨p1,q1⟩:=x
 obtain⟨p2,q2⟩:=y
 obtain⟨g,hg⟩:∃g,g=w.heap.size:=⟨_,rfl⟩
 obtain⟨W,hW⟩:∃W,W=(w.alloc (.cells #[.int .i64 p1,.slice a1 q1.length c1] 38)).alloc (.cells #[.int .i64 p2,.slice a2 q2.length c2] 38):=⟨_,rfl⟩
 have HX:=Hd (show Blk W g 38 #[.int .i64 p1,.slice a1 q1.length c1]∧Blk W (g+1) 38 #[.int .i64 p2,.slice a2 q2.length c2]∧Below w.heap.size w W from by
  have hb1:=Ag w (.cells #[.int .i64 p1,.slice a1 q1.length c1] 38)
  have hb2:=Ag (w.alloc (.cells #[.int .i64 p1,.slice a1 q1.length c1] 38)) (.cells #[.int .i64 p2,.slice a2 q2.length c2] 38)
  have hx1:=Blk.new w 38 #[.int .i64 p1,.slice a1 q1.length c1]
  have hx2:=Blk.new (w.alloc (.cells #[.int .i64 p1,.slice a1 q1.length c1] 38)) 38 #[.int .i64 p2,.slice a2 q2.length c2]
  rw[World.size_alloc]at hx2
  rw[hW,hg]
  exact⟨hx1.below hb2 hx1.lt,hx2,Aa hb1 hb2⟩)
 have d0:W.cell? ⟨g,0,none⟩=some (.int .i64 p1):=HX.out.1.cell 0
 have d1:W.cell? ⟨g,1,none⟩=some (.slice a1 q1.length c1):=HX.out.1.cell 1
 have d2:W.cell? ⟨g+1,0,none⟩=some (.int .i64 p2):=HX.out.2.1.cell 0
 have d3:W.cell? ⟨g+1,1,none⟩=some (.slice a2 q2.length c2):=HX.out.2.1.cell 1
 have dl:g<W.heap.size:=HX.out.1.lt
 have dl':g+1<W.heap.size:=HX.out.2.1.lt
 have HC:=Hd (JQ q1 q2 _ _ W (hx.below HX.out.2.2 fun _ _ _=>trivial) (hy.below HX.out.2.2 fun _ _ _=>trivial))
 clear hx hy
 by_cases hp:p1=p2
 ·have HP:=Hd (show Bf ⟨p1,q1⟩ ⟨p2,q2⟩=eqL Ak q1 q2 from by unfold Bf;simp[hp])
  subst hp
  go_enter Tryz.func53,Tryz.ntmps53
  go_upto_region 1 with fail
  rw[←hg,←hW]
  have HG:=Hd hg
  clear hW hg
  go_wp2_with (first
   |(go_at_call 50;(with_reducible refine HC.out.mono ?_);rintro e w1 ⟨rfl,hb1⟩;have HB1:=Hd (Aa HX.out.2.2 hb1);clear hb1)
   |fail)
  go_ret
  exact⟨Af HP.out.symm,HB1.out⟩
 ·have HP:=Hd (show Bf ⟨p1,q1⟩ ⟨p2,q2⟩=false from by unfold Bf;simp[hp])
  go_enter Tryz.func53,Tryz.ntmps53
  go_upto_region 1 with fail
  rw[←hg,←hW]
  have HG:=Hd hg
  clear hW hg
  go_wp2_with fail
  go_ret
  exact⟨Af HP.out.symm,HX.out.2.2⟩
theorem NX (a b:List AK) (va vb:Value) (w:World) (ha:LIn Az Ai w a va) (hb:LIn Az Ai w b vb):Calls Tryz.prog 52 #[va,vb,.func (.func 53) #[] #[]] w fun e w'=>e= .returned (.bool (eqL Bf a b))∧Below w.heap.size w w':=by
 obtain⟨a1,c1,rfl⟩:=ha.form
 obtain⟨a2,c2,rfl⟩:=hb.form
 have hn1:=ha.bound
 have hn2:=hb.bound
 have HA:=Hd ha
 have HB:=Hd hb
 obtain⟨T,hT⟩:∃T,T=eqL Bf a b:=⟨_,rfl⟩
 rw[←hT]
 have HT:=Hd hT
 clear ha hb hT
 by_cases hnn:a.length=b.length
 ·have HNN:=Hd hnn
  obtain⟨n,hn⟩:∃n,n=a.length:=⟨_,rfl⟩
  have HLn:=Hd (show a.length=n∧b.length=n from⟨hn.symm,by omega⟩)
  rw[←hnn,←hn]
  rw[←hn]at hn1
  clear hn2 hnn hn
  go_enter Tryz.func52,Tryz.ntmps52
  go_wp2_with fail
  go_loopw [17] (fun i wr=>∃k:Nat,k≤n∧i= .int .i64 k∧Hid ((∀j (h1:j<a.length) (h2:j<b.length),j<k→Bf a[j] b[j]=true)∧Below w.heap.size w wr)) (fun i wr=>n-(intOf i).toNat)
  case atStart=>exact⟨0,by omega,rfl,⟨fun j _ _ h=>absurd h (Nat.not_lt_zero j),Below.refl _ _⟩⟩
  case round=>
   obtain⟨k,hk,rfl,HQ⟩:=hrel
   by_cases hlt:k<n
   ·have hki:(k:Int)<(n:Int):=by omega
    obtain⟨b1,o1,r1,ha1,_,hcs1,hh1⟩:=HA.out.at_ k (by have:=HLn.out;omega)
    have hvb:Value.slice a2 n c2= .slice a2 b.length c2:=by rw[HLn.out.2]
    obtain⟨b2,o2,r2,ha2,_,hcs2,hh2⟩:=HB.out.at_ k (by have:=HLn.out;omega)
    obtain⟨x,hx⟩:∃x,x=a[k]'(by have:=HLn.out;omega):=⟨_,rfl⟩
    obtain⟨y,hy⟩:∃y,y=b[k]'(by have:=HLn.out;omega):=⟨_,rfl⟩
    rw[←hx]at hcs1 hh1
    rw[←hy]at hcs2 hh2
    have HXY:=Hd (show∀(h1:k<a.length) (h2:k<b.length),a[k]=x∧b[k]=y from fun _ _=>⟨hx.symm,hy.symm⟩)
    subst ha1 ha2
    dsimp only[Az]at hcs1 hcs2 hh1 hh2 r1 r2
    obtain⟨xa,xc,rfl⟩:=hh1.2.form
    obtain⟨ya,yc,rfl⟩:=hh2.2.form
    have HFr:=Hd HQ.out.2
    have HLt:=Hd hlt
    have hd1:=hcs1.below HFr.out
    have hd2:=hcs2.below HFr.out
    obtain⟨w2,hw2⟩:∃w2,w2=(wr.alloc (.cells #[.int .i64 x.prio,.slice xa x.pkgs.length xc] 38)).alloc (.cells #[.int .i64 y.prio,.slice ya y.pkgs.length yc] 38):=⟨_,rfl⟩
    have hbn:Below wr.heap.size wr w2:=by rw[hw2];exact Aa (Ag _ _) (Ag _ _)
    have HB3:=Hd (Aa HFr.out hbn)
    obtain⟨bb,hbb⟩:∃bb,bb=Bf x y:=⟨_,rfl⟩
    have HM:=Hd (show Calls Tryz.prog 53 #[.agg #[.int .i64 x.prio,.slice xa x.pkgs.length xc],.agg #[.int .i64 y.prio,.slice ya y.pkgs.length yc]] w2 fun e w''=>e= .returned (.bool bb)∧Below w2.heap.size w2 w'' from by
     rw[hbb]
     exact K6 x y _ _ w2 (hh1.2.below (Aa HFr.out hbn) fun _ _ _=>trivial) (hh2.2.below (Aa HFr.out hbn) fun _ _ _=>trivial))
    rw[hw2]at HM HB3
    have HBb:=Hd hbb
    have x0:wr.cell? ⟨b1,o1+k*2,none⟩=some (.int .i64 x.prio):=hd1.2 0 (show 0<2 by omega)
    have y0:wr.cell? ⟨b2,o2+k*2,none⟩=some (.int .i64 y.prio):=hd2.2 0 (show 0<2 by omega)
    have x1:wr.cell? ⟨b1,o1+k*2+1,none⟩=some (.slice xa x.pkgs.length xc):=hd1.2 1 (show 1<2 by omega)
    have y1:wr.cell? ⟨b2,o2+k*2+1,none⟩=some (.slice ya y.pkgs.length yc):=hd2.2 1 (show 1<2 by omega)
    have p1:=hd1.1
    have p2:=hd2.1
    clear hcs1 hcs2 hh1 hh2 hd1 hd2 hx hy hvb hw2 hbn hbb
    cases bb with
    |true=>
     go_wp2_with (first
      |(go_at_call 53;(with_reducible refine(HM.out).mono ?_);rintro e w1 ⟨rfl,HBc⟩;have HB1:=Hd (Aa HB3.out HBc);clear HBc)
      |fail)
     go_roundw
     case rel=>exact⟨k+1,by have:=HLt.out;omega,by go_num,⟨fun j h1 h2 h3=>by
      by_cases hj:j<k
      ·exact HQ.out.1 j h1 h2 hj
      ·obtain rfl:j=k:=by omega
       obtain⟨e1,e2⟩:=HXY.out h1 h2
       rw[e1,e2]
       exact HBb.out.symm,HB1.out⟩⟩
     case measure=>simp[intOf];omega
    |false=>
     have HT2:=Hd (show T=false by
      rw[HT.out]
      have h1:k<a.length:=by have:=HLn.out;have:=HLt.out;omega
      have h2:k<b.length:=by have:=HLn.out;have:=HLt.out;omega
      obtain⟨e1,e2⟩:=HXY.out h1 h2
      exact BP h1 h2 (by rw[e1,e2];exact HBb.out.symm))
     go_wp2_with (first
      |(go_at_call 53;(with_reducible refine(HM.out).mono ?_);rintro e w1 ⟨rfl,HBc⟩;have HB1:=Hd (Aa HB3.out HBc);clear HBc)
      |fail)
     go_ret
     exact⟨Af HT2.out.symm,HB1.out⟩
   ·obtain rfl:k=n:=by omega
    have HT2:=Hd (show T=true by rw[HT.out];exact(Bp _ _ _).2 ⟨HNN.out,fun j h1 h2=>HQ.out.1 j h1 h2 (by have:=HLn.out;omega)⟩)
    go_wp2_with fail
    go_ret
    exact⟨Af HT2.out.symm,HQ.out.2⟩
 ·have h1:¬(a.length:Int)=(b.length:Int):=by omega
  have HT2:=Hd (show T=false by rw[HT.out];exact CO hnn)
  clear hnn
  go_enter Tryz.func52,Tryz.ntmps52
  go_wp2_with fail
  go_ret
  exact⟨Af HT2.out.symm,Below.refl _ _⟩
theorem M2 (a b:AA) (vr vi ur ui:Value) (w:World) (ha:AR Ai w a vr vi) (hb:AR Ai w b ur ui):
 Calls Tryz.prog 23 #[.agg #[vr,vi],.agg #[ur,ui]] w fun e w'=>e= .returned (.bool (Bm a b))∧Below w.heap.size w w':=by
 obtain⟨ar,cr,rfl⟩:=ha.repos.form
 obtain⟨ai,ci,rfl⟩:=ha.inst.form
 obtain⟨br,dr,rfl⟩:=hb.repos.form
 obtain⟨bi,di,rfl⟩:=hb.inst.form
 obtain⟨g,hg⟩:∃g,g=w.heap.size:=⟨_,rfl⟩
 obtain⟨W,hW⟩:∃W,W=(w.alloc (.cells #[.slice ar a.repos.length cr,.slice ai a.inst.length ci] 41)).alloc (.cells #[.slice br b.repos.length dr,.slice bi b.inst.length di] 41):=⟨_,rfl⟩
 have HX:=Hd (show Blk W g 41 #[.slice ar a.repos.length cr,.slice ai a.inst.length ci]∧Blk W (g+1) 41 #[.slice br b.repos.length dr,.slice bi b.inst.length di]∧Below w.heap.size w W from by
  have hb1:=Ag w (.cells #[.slice ar a.repos.length cr,.slice ai a.inst.length ci] 41)
  have hb2:=Ag (w.alloc (.cells #[.slice ar a.repos.length cr,.slice ai a.inst.length ci] 41)) (.cells #[.slice br b.repos.length dr,.slice bi b.inst.length di] 41)
  have hx1:=Blk.new w 41 #[.slice ar a.repos.length cr,.slice ai a.inst.length ci]
  have hx2:=Blk.new (w.alloc (.cells #[.slice ar a.repos.length cr,.slice ai a.inst.length ci] 41)) 41 #[.slice br b.repos.length dr,.slice bi b.inst.length di]
  rw[World.size_alloc]at hx2
  rw[hW,hg]
  exact⟨hx1.below hb2 hx1.lt,hx2,Aa hb1 hb2⟩)
 have d0:W.cell? ⟨g,0,none⟩=some (.slice ar a.repos.length cr):=HX.out.1.cell 0
 have d1:W.cell? ⟨g,1,none⟩=some (.slice ai a.inst.length ci):=HX.out.1.cell 1
 have d2:W.cell? ⟨g+1,0,none⟩=some (.slice br b.repos.length dr):=HX.out.2.1.cell 0
 have d3:W.cell? ⟨g+1,1,none⟩=some (.slice bi b.inst.length di):=HX.out.2.1.cell 1
 have dl:g<W.heap.size:=HX.out.1.lt
 have dl':g+1<W.heap.size:=HX.out.2.1.lt
 obtain⟨t,ht⟩:∃t,t=eqL Ak a.inst b.inst:=⟨_,rfl⟩
 have HC:=Hd (show Calls Tryz.prog 50 #[.slice ai a.inst.length ci,.slice bi b.inst.length di,.func (.func 51) #[] #[]] W fun e w'=>e= .returned (.bool t)∧Below W.heap.size W w' from by
  rw[ht]
  exact JQ a.inst b.inst _ _ W (ha.bl HX.out.2.2).inst (hb.bl HX.out.2.2).inst)
 have HR:=Hd (show∀w',Below W.heap.size W w'→Calls Tryz.prog 52 #[.slice ar a.repos.length cr,.slice br b.repos.length dr,.func (.func 53) #[] #[]] w' (fun e w''=>e= .returned (.bool (eqL Bf a.repos b.repos))∧Below w'.heap.size w' w'')from fun w' h=>NX a.repos b.repos _ _ w' ((ha.bl HX.out.2.2).bl h).repos ((hb.bl HX.out.2.2).bl h).repos)
 have HT:=Hd (show Bm a b=(t && eqL Bf a.repos b.repos)from by rw[ht];rfl)
 clear ha hb ht
 go_enter Tryz.func23,Tryz.ntmps23
 go_upto_region 1 with fail
 rw[←hg,←hW]
 have HG:=Hd hg
 clear hW hg
 go_wp2_with (first
  |(go_at_call 50;(with_reducible refine HC.out.mono ?_);rintro e w1 ⟨rfl,hb1⟩;have HB1:=Hd hb1;have z1:w1.cell? ⟨g,0,none⟩=some (.slice ar a.repos.length cr):=(HX.out.1.below hb1 HX.out.1.lt).cell 0;have z2:w1.cell? ⟨g+1,0,none⟩=some (.slice br b.repos.length dr):=(HX.out.2.1.below hb1 HX.out.2.1.lt).cell 0;have z3:=(HX.out.1.below hb1 HX.out.1.lt).lt;have z4:=(HX.out.2.1.below hb1 HX.out.2.1.lt).lt;have HBz:=Hd (Aa HX.out.2.2 hb1);clear hb1;cases t)
  |(go_at_call 52;(with_reducible refine(HR.out _ HB1.out).mono ?_);rintro e w2 ⟨rfl,hb2⟩;have HBz:=Hd (Aa HBz.out hb2);clear hb2)
  |fail)
 all_goals go_ret
 all_goals exact⟨Af (by rw[HT.out];simp),HBz.out⟩
def six (p:Aq):Nat→Ac
 |0=>p.req
 |1=>p.con
 |2=>p.reco
 |3=>p.sup
 |4=>p.sug
 |_=>p.enh
def AE.fld (r:AE):Nat→Value
 |0=>r.req
 |1=>r.con
 |2=>r.reco
 |3=>r.sup
 |4=>r.sug
 |_=>r.enh
def AE.setF (r:AE):Nat→Value→AE
 |0,v=>{r with req:=v}
 |1,v=>{r with con:=v}
 |2,v=>{r with reco:=v}
 |3,v=>{r with sup:=v}
 |4,v=>{r with sug:=v}
 |_,v=>{r with enh:=v}
def fo:Nat→Nat
 |0=>7
 |1=>8
 |2=>10
 |3=>11
 |4=>12
 |_=>13
theorem Cp {k:Nat} (h:k<6):k=0∨k=1∨k=2∨k=3∨k=4∨k=5:=by omega
theorem Nx (p:Aq) (r:AE) {k:Nat} (h:k<6):(pC p r)[fo k]?=some (r.fld k):=by
 rcases Cp h with rfl|rfl|rfl|rfl|rfl|rfl<;>rfl
theorem OZ (p:Aq) (r:AE) {k:Nat} (h:k<6) (v:Value):(pC p r).setIfInBounds (fo k) v=pC p (r.setF k v):=by
 rcases Cp h with rfl|rfl|rfl|rfl|rfl|rfl<;>rfl
theorem Gw (r:AE) {j k:Nat} (hj:j<6) (h:k<6) (v:Value):(r.setF k v).fld j=if j=k then v else r.fld j:=by
 rcases Cp h with rfl|rfl|rfl|rfl|rfl|rfl<;>rcases Cp hj with rfl|rfl|rfl|rfl|rfl|rfl<;>rfl
theorem L6 (r:AE) (k:Nat) (v:Value):(r.setF k v).prov=r.prov∧(r.setF k v).obs=r.obs∧(r.setF k v).files=r.files:=by
 unfold AE.setF
 split<;>exact⟨rfl,rfl,rfl⟩
theorem LIn.touchF {α:Type} {K:Kd α} {N:Nat} {F:Nat→Prop} {w w':World} {l:List α} {v:Value} (h:LIn K (Am N) w l v) (ht:Ae F w w') (hF:∀b,N≤b→b<w.heap.size→¬F b):LIn K (Am N) w' l v:=
 h.keep ht.size fun b ⟨k1,k2⟩ hb=>⟨ht.block b hb (hF b k1 hb),k1,fun i=>(World.frozen?_of_block (w:=w) (ht.block b hb (hF b k1 hb))).trans (k2 i)⟩
structure KSt (w:World) (p:Aq) (r0:AE) (g ga k:Nat) (r:AE) (W:World):Prop where
 b0:Blk W g 29 (pC p r)
 b1:Blk W (g+1) 29 (pC Da DF)
 ba:Blk W ga 175 #[.pointer (some ⟨g,7,none⟩),.pointer (some ⟨g,8,none⟩),.pointer (some ⟨g,10,none⟩),.pointer (some ⟨g,11,none⟩),.pointer (some ⟨g,12,none⟩),.pointer (some ⟨g,13,none⟩)]
 prov:LIn AW (Am (g+2)) W p.prov r.prov
 obs:LIn AW (Am (g+2)) W p.obs r.obs
 files:LIn A2 (Am (g+2)) W p.files r.files
 new:∀j,j<k→j<6→LIn Aj (Am (g+2)) W (Ab (six p j)) (r.fld j)
 old:∀j,k≤j→j<6→r.fld j=r0.fld j
 bl:Below w.heap.size w W
 gw:g=w.heap.size
 ga:g+2≤ga
theorem KSt.ptr {w W:World} {p:Aq} {r0 r:AE} {g ga k:Nat} (h:KSt w p r0 g ga k r W) {j:Nat} (hj:j<6):W.cell? ⟨ga,j,none⟩=some (.pointer (some ⟨g,fo j,none⟩)):=by
 rw[h.ba.cell]
 rcases Cp hj with rfl|rfl|rfl|rfl|rfl|rfl<;>rfl
theorem KSt.cell {w W:World} {p:Aq} {r0 r:AE} {g ga k:Nat} (h:KSt w p r0 g ga k r W) {j:Nat} (hj:j<6):W.cell? ⟨g,fo j,none⟩=some (r.fld j):=by
 rw[h.b0.cell]
 exact Nx p r hj
theorem KSt.next {w W W':World} {p:Aq} {r0 r:AE} {g ga k:Nat} {v:Value} (h:KSt w p r0 g ga k r W) (hk:k<6) (ht:Ae (fun b=>b=g) W W') (hb:Blk W' g 29 (pC p (r.setF k v))) (hl:LIn Aj (Am (g+2)) W' (Ab (six p k)) v):KSt w p r0 g ga (k+1) (r.setF k v) W':=by
 obtain⟨e1,e2,e3⟩:=L6 r k v
 have hF:∀b,g+2≤b→b<W.heap.size→¬b=g:=fun b h1 _=>by omega
 refine⟨hb,h.b1.touch ht (by omega),h.ba.touch ht (by have:=h.ga;omega),by rw[e1];exact h.prov.touchF ht hF,by rw[e2];exact h.obs.touchF ht hF,by rw[e3];exact h.files.touchF ht hF,fun j hj h6=> ?_,fun j hj h6=> ?_,h.bl.trans (ht.below h.bl.size fun b hb=>by have:=h.gw;omega),h.gw,h.ga⟩
 ·rw[Gw r h6 hk]
  by_cases e:j=k
  ·rw[if_pos e,e]
   exact hl
  ·rw[if_neg e]
   exact(h.new j (by omega) h6).touchF ht hF
 ·rw[Gw r h6 hk,if_neg (by omega)]
  exact h.old j (by omega) h6
theorem Own.put {w:World} {e:TypeId} {size n g off cap:Nat} {xs xs':List Value} (h:Own w e size (.slice (some ⟨g,off,none⟩) n cap) n xs) (o:Nat) (vs:List Value) (ho:o+vs.length≤xs.length) (hl:xs'.length=xs.length)
 (hx:∀i,i<xs.length→xs'[i]?=if o≤i∧i<o+vs.length then vs[i-o]? else xs[i]?):Own (w.setCells g (off+o) vs) e size (.slice (some ⟨g,off,none⟩) n cap) n xs':=by
 obtain⟨h1,h2⟩:=h
 refine⟨by rw[hl,h1],?_⟩
 rcases h2 with ⟨h2,_⟩|⟨g',off',cap',cur,hv,hb,hnc,hcm,hsz,hcell⟩
 ·cases h2
 ·injection hv with ha _ hc
  injection ha with ha
  injection ha with hg hof
  subst hg hof hc
  have hle:n*size≤cap*size:=Nat.mul_le_mul_right _ hnc
  refine .inr ⟨g,off,cap,_,rfl,hb.setCells vs (off+o),hnc,hcm,by rw[Dd];exact hsz,fun i hi=> ?_⟩
  rw[hl]at hi
  rw[Du vs (off+o) cur (off+i) (by omega),hx i hi]
  by_cases hc:o≤i∧i<o+vs.length
  ·rw[if_pos hc,if_pos (by omega),show off+i-(off+o)=i-o from by omega]
  ·rw[if_neg hc,if_neg (by omega)]
   exact hcell i hi
theorem LE {α:Type} (K:Kd α) (x:α) (r:K.R):∀(ps:List (α×K.R)) (j:Nat),j<ps.length→∀i,(enL K (ps.set j (x,r)))[i]?=if j*K.size≤i∧i<j*K.size+K.size then(K.cells x r)[i-j*K.size]? else(enL K ps)[i]?
 |p::ps,0,_,i=>by
  show(K.cells x r++enL K ps)[i]?=if _ then _ else(K.cells p.1 p.2++enL K ps)[i]?
  rw[Nat.zero_mul,Nat.zero_add,Nat.sub_zero]
  by_cases h:i<K.size
  ·rw[if_pos ⟨Nat.zero_le _,h⟩,List.getElem?_append_left (by rw[K.len];exact h)]
  ·rw[if_neg (fun c=>h c.2),List.getElem?_append_right (by rw[K.len];omega),List.getElem?_append_right (by rw[K.len];omega),K.len,K.len]
 |p::ps,j+1,hj,i=>by
  show(K.cells p.1 p.2++enL K (ps.set j (x,r)))[i]?=if _ then _ else(K.cells p.1 p.2++enL K ps)[i]?
  have e:(j+1)*K.size=j*K.size+K.size:=by rw[Nat.add_mul,Nat.one_mul]
  by_cases h:i<K.size
  ·rw[if_neg (by omega),List.getElem?_append_left (by rw[K.len];exact h),List.getElem?_append_left (by rw[K.len];exact h)]
  ·rw[List.getElem?_append_right (by rw[K.len];omega),List.getElem?_append_right (by rw[K.len];omega),K.len,LE K x r ps j (by simpa using hj) (i-K.size)]
   by_cases h2:j*K.size≤i-K.size∧i-K.size<j*K.size+K.size
   ·rw[if_pos h2,if_pos (by omega),show i-K.size-j*K.size=i-(j+1)*K.size from by omega]
   ·rw[if_neg h2,if_neg (by omega)]
theorem OX {α β:Type} {ps:List (α×β)} {l:List α} (h:ps.map Prod.fst=l) {j:Nat} (hj:j<l.length) (r:β):(ps.set j (l[j],r)).map Prod.fst=l:=by
 subst h
 apply List.ext_getElem
 ·simp
 ·intro i h1 h2
  rw[List.getElem_map,List.getElem_set]
  split
  ·next e=>subst e;simp
  ·simp
structure MSt (w:World) (l:List Ac) (v:Value) (wc:World) (j:Nat) (W:World):Prop where
 ex:∃ps:List (Ac×Aj.R),ps.map Prod.fst=l∧Own W 34 7 v l.length (enL Aj ps)∧(∀i (h:i<ps.length),i<j→Aj.holds (FR wc.heap.size v) W ps[i].1 ps[i].2)∧(∀i (h:i<ps.length),j≤i→Aj.holds Ai w ps[i].1 ps[i].2)
 tc:Ae (fun b=>v.ownBlock=some b) wc W
theorem MSt.at_ {w wc W:World} {l:List Ac} {v:Value} {j:Nat} (h:MSt w l v wc j W) (hj:j<l.length):∃b q cap s,v= .slice (some ⟨b,q,none⟩) l.length cap∧AX W b (q+j*7) (AM l[j] s)∧Au w l[j] s∧W.there b (q+j*7) 7∧b<W.heap.size:=by
 obtain⟨ps,h1,h2,h3,h4⟩:=h.ex
 have hl:ps.length=l.length:=by rw[←h1,List.length_map]
 have hf:∀(hj':j<ps.length),ps[j].1=l[j]:=fun hj'=>by
  subst h1
  rw[List.getElem_map]
 obtain⟨ao,cap,rfl,_,_,hc⟩:=h2.form
 obtain⟨g,off,rfl,hcell,hfz,hlt⟩:=hc (by omega)
 have hps:=h4 j (by omega) (Nat.le_refl _)
 have hle:(j+1)*7≤l.length*7:=Nat.mul_le_mul_right _ hj
 have hlen:(enL Aj ps).length=l.length*7:=(Dw Aj ps).trans (by rw[hl];rfl)
 have hce:∀i,i<7→W.cell? ⟨g,off+j*7+i,none⟩=(AM (l[j]) (ps[j]'(by omega)).2)[i]?:=fun i hi=>by
  rw[Nat.add_assoc,hcell _ (by omega)]
  have:=GE Aj ps j (by omega) i hi
  rw[show j*Aj.size=j*7 from rfl]at this
  rw[this,←hf (by omega)]
  rfl
 refine⟨g,off,cap,(ps[j]'(by omega)).2,rfl,⟨hlt,fun i hi=>hce i hi⟩,?_,fun i hi=>⟨?_,hfz _⟩,hlt⟩
 ·rw[←hf (by omega)]
  exact AZ.is hps
 ·rw[hce i hi,List.getElem?_eq_getElem (by exact hi)]
  rfl
theorem MSt.next {w wc W w1:World} {l:List Ac} {b q cap j m0:Nat} {s':Value} (h:MSt w l (.slice (some ⟨b,q,none⟩) l.length cap) wc j W) (hj:j<l.length) (hb:Below W.heap.size W w1) (hx:Aj.holds (Am m0) w1 (l[j]'hj) s') (hm:W.heap.size≤m0):MSt w l (.slice (some ⟨b,q,none⟩) l.length cap) wc (j+1) (w1.setCells b (q+j*7) (AM (l[j]'hj) s')):=by
 obtain⟨ps,h1,h2,h3,h4⟩:=h.ex
 have hl:ps.length=l.length:=by rw[←h1,List.length_map]
 have hlen:(enL Aj ps).length=l.length*7:=(Dw Aj ps).trans (by rw[hl];rfl)
 have hle:(j+1)*7≤l.length*7:=Nat.mul_le_mul_right _ hj
 have hbW:b<W.heap.size:=h2.lt b rfl
 have hh:∀(w:World) o vs k,k≠b→(w.setCells b o vs).heap[k]?=w.heap[k]?:=fun w o vs k hk=>by
  have:∀(vs:List Value) (o:Nat) (w:World),(w.setCells b o vs).heap[k]?=w.heap[k]?:=fun vs=>by
   induction vs with
   |nil=>intro o w;rfl
   |cons v r ih=>intro o w;rw[World.setCells,ih];exact Below.heap_setCell w ⟨b,o,none⟩ v k hk
  exact this vs o w
 have hos:∀(vs:List Value) (o:Nat) (w:World),(w.setCells b o vs).os=w.os∧(w.setCells b o vs).output=w.output:=fun vs=>by
  induction vs with
  |nil=>intro o w;exact⟨rfl,rfl⟩
  |cons v r ih=>intro o w;rw[World.setCells];exact ih _ _
 have hsz:=CN b (AM (l[j]'hj) s') (q+j*7) w1
 obtain⟨W2,hW2⟩:∃W2,W2=w1.setCells b (q+j*7) (AM (l[j]'hj) s'):=⟨_,rfl⟩
 have hkeep:∀(x:Ac) (s:Value) (w2:World) (B:World→Nat→Prop),AZ B w2 x s→w2.heap.size≤w1.heap.size→(∀k,B w2 k→k<w2.heap.size→k≠b∧w1.heap[k]?=w2.heap[k]?∧wc.heap.size≤k∧∀i,w2.frozen? ⟨k,i,none⟩=false)→AZ (FR wc.heap.size (.slice (some ⟨b,q,none⟩) l.length cap)) W2 x s:=by
  intro x s w2 B hx2 hs2 hB
  refine AZ.keep (B':=FR wc.heap.size (.slice (some ⟨b,q,none⟩) l.length cap)) hx2 (by rw[hW2,hsz];exact hs2) fun k hk hlt=> ?_
  obtain⟨k1,k2,k3,k4⟩:=hB k hk hlt
  have e:W2.heap[k]?=w2.heap[k]?:=by rw[hW2];exact(hh w1 (q+j*7) (AM (l[j]'hj) s') k k1).trans k2
  refine⟨e,k3,fun c=> ?_,fun i=>(World.frozen?_of_block (w:=w2) e).trans (k4 i)⟩
  simp only[Value.ownBlock,Option.some.injEq]at c
  exact k1 c.symm
 refine⟨⟨ps.set j ((l[j]'hj),s'),OX h1 hj s',?_,fun i hi hij=> ?_,fun i hi hij=> ?_⟩,?_⟩
 ·refine Own.put (h2.new hb) (j*7) (AM (l[j]'hj) s') (by rw[hlen];simp only[AM,List.length_cons,List.length_nil];omega) (by exact(Dw Aj _).trans ((congrArg (·*Aj.size) (List.length_set ..)).trans (Dw Aj _).symm)) fun i hi=> ?_
  have e:=LE Aj (l[j]'hj) s' ps j (by omega) i
  rw[show Aj.size=7 from rfl]at e
  rw[show(AM (l[j]'hj) s').length=7 from rfl]
  exact e
 ·by_cases e:i=j
  ·subst e
   rw[List.getElem_set_self]
   exact hW2▸hkeep _ _ w1 (Am m0) hx (Nat.le_refl _) fun k ⟨k1,k2⟩ hlt=>⟨by omega,rfl,by have:=h.tc.size;omega,k2⟩
  ·rw[List.getElem_set_ne (fun c=>e c.symm)]
   rw[List.length_set]at hi
   exact hW2▸hkeep _ _ W _ (h3 i hi (by omega)) hb.size fun k ⟨k1,k2,k3⟩ hlt=>⟨fun c=>k2 (by rw[c];rfl),hb.block k hlt,k1,k3⟩
 ·rw[List.getElem_set_ne (by omega)]
  rw[List.length_set]at hi
  exact h4 i hi (by omega)
 ·refine⟨(hos _ _ _).1.trans (hb.os.trans h.tc.os),(Dc _ _ _ _).trans (hb.tape.trans h.tc.tape),(hos _ _ _).2.trans (hb.output.trans h.tc.output),by rw[hsz];exact Nat.le_trans h.tc.size hb.size,fun k hk hF=> ?_⟩
  rw[hh w1 _ _ k (fun e=>hF (by rw[e];rfl)),hb.block k (Nat.lt_of_lt_of_le hk h.tc.size)]
  exact h.tc.block k hk hF
theorem MSt.done {w wc W:World} {l:List Ac} {v:Value} {N:Nat} (h:MSt w l v wc l.length W) (hN:N≤wc.heap.size) (hv:∀b,v.ownBlock=some b→N≤b) (hl:l.length≤4611686018427387904):LIn Aj (Am N) W l v:=by
 obtain⟨ps,h1,h2,h3,h4⟩:=h.ex
 refine(show Acc Aj 34 N W l v from⟨ps,h1,h2,hv,fun p hp=> ?_⟩).done hl (by decide)
 obtain⟨i,hi,rfl⟩:=List.getElem_of_mem hp
 have hl2:ps.length=l.length:=by rw[←h1,List.length_map]
 exact Aj.keep (h3 i hi (by omega)) (Nat.le_refl _) fun b ⟨k1,k2,k3⟩ _=>⟨rfl,by omega,k2,k3⟩
theorem Dr {l:List Value} (h:l.length=12):∃m0 m1 m2 m3 m4 m5 m6 m7 m8 m9 m10 m11,l= [m0,m1,m2,m3,m4,m5,m6,m7,m8,m9,m10,m11]:=by
 obtain⟨m0,l0,e0,h0⟩:=AP h
 obtain⟨m1,m2,m3,m4,m5,m6,m7,m8,m9,m10,m11,e⟩:=Ln h0
 exact⟨m0,m1,m2,m3,m4,m5,m6,m7,m8,m9,m10,m11,by rw[e0,e]⟩
theorem Qj {l:List Value} (h:l.length=7):∃m0 m1 m2 m3 m4 m5 m6,l= [m0,m1,m2,m3,m4,m5,m6]:=by
 obtain⟨m0,l0,e0,h0⟩:=AP h
 obtain⟨m1,l1,e1,h1⟩:=AP h0
 obtain⟨m2,l2,e2,h2⟩:=AP h1
 obtain⟨m3,l3,e3,h3⟩:=AP h2
 obtain⟨m4,l4,e4,h4⟩:=AP h3
 obtain⟨m5,l5,e5,h5⟩:=AP h4
 obtain⟨m6,l6,e6,h6⟩:=AP h5
 have e:=List.eq_nil_of_length_eq_zero h6
 exact⟨m0,m1,m2,m3,m4,m5,m6,by rw[e0,e1,e2,e3,e4,e5,e6,e]⟩
theorem L4 {p:Aq} (h:p.small) {k:Nat} (hk:k<6):(Ab (six p k)).length≤1048576∧∀x∈Ab (six p k),x.count≤1048576:=by
 rcases Cp hk with rfl|rfl|rfl|rfl|rfl|rfl
 ·exact⟨h.req,h.creq⟩
 ·exact⟨h.con,h.ccon⟩
 ·exact⟨h.reco,h.creco⟩
 ·exact⟨h.sup,h.csup⟩
 ·exact⟨h.sug,h.csug⟩
 ·exact⟨h.enh,h.cenh⟩
theorem Ql {B:World→Nat→Prop} {w:World} {p:Aq} {r:AE} (h:Ah B w p r) {k:Nat} (hk:k<6):LIn Aj B w (Ab (six p k)) (r.fld k):=by
 rcases Cp hk with rfl|rfl|rfl|rfl|rfl|rfl
 ·exact h.req
 ·exact h.con
 ·exact h.reco
 ·exact h.sup
 ·exact h.sug
 ·exact h.enh
theorem OY {B:World→Nat→Prop} {w:World} {p:Aq} {r:AE} (h:Ah B w p r):(pC p r).all (·.oneCell')=true:=by
 have h:=AN.one (B:=B) (w:=w) (x:=p) (r:=r) h
 rw[Array.all_eq_true_iff_forall_mem]
 intro u hu
 exact h u (by simpa [AN,CC]using hu)
theorem MF (p:Aq) (r:AE) (w:World) (hp:Ah Ai w p r) (hsm:p.small):Calls Tryz.prog 104 #[p.val r] w fun e w'=>(∃r',e= .returned (p.val r')∧Ah (Am w.heap.size) w' p r')∧Below w.heap.size w w':=by
 have hfm:=hp.forms
 obtain⟨W,hW⟩:∃W,W=((w.alloc (.cells (pC p r) 29)).alloc (.cells (pC Da DF) 29)):=⟨_,rfl⟩
 obtain⟨g,hg⟩:∃g,g=w.heap.size:=⟨_,rfl⟩
 have HX:Hid (Blk W g 29 (pC p r)∧Blk W (g+1) 29 (pC Da DF)∧Below w.heap.size w W∧W.heap.size=w.heap.size+2):=Hd (by
  have hb1:=Ag w (.cells (pC p r) 29)
  have hb2:=Ag (w.alloc (.cells (pC p r) 29)) (.cells (pC Da DF) 29)
  have hx1:=Blk.new w 29 (pC p r)
  have hx2:=Blk.new (w.alloc (.cells (pC p r) 29)) 29 (pC Da DF)
  rw[World.size_alloc]at hx2
  rw[hW,hg]
  exact⟨hx1.below hb2 hx1.lt,hx2,Aa hb1 hb2,by simp⟩)
 have HP:=Hd hp
 have HF:=Hd hfm
 have HG:=Hd hg
 obtain⟨⟨q1,q2,q3,e1⟩,⟨q4,q5,q6,e2⟩,⟨q7,q8,q9,e3⟩,⟨q10,q11,q12,e4⟩,⟨q13,q14,q15,e5⟩,⟨q16,q17,q18,e6⟩,⟨q19,q20,q21,e7⟩,⟨q22,q23,q24,e8⟩,⟨q25,q26,q27,e9⟩⟩:=hfm
 rcases r with ⟨r0,r1,r2,r3,r4,r5,r6,r7,r8⟩
 dsimp only at e1 e2 e3 e4 e5 e6 e7 e8 e9
 subst e1 e2 e3 e4 e5 e6 e7 e8 e9
 have HSm:=Hd hsm
 clear hp hsm
 go_enter Tryz.func104,Tryz.ntmps104
 go_upto_region 1 with fail
 dsimp only[pC,Da,DF]at hW
 rw[←hW,←hg]
 clear hW hg
 refine QN (w0:=w) (g:=g) (p:=p) (r:=_) (by kernel_rfl) (by kernel_rfl) rfl HX.out.1 HF.out HP.out HX.out.2.2.1 HSm.out (by kernel_rfl) (by kernel_rfl) (by kernel_rfl) (by kernel_rfl) ?_
 intro mid v1 v2 v3 V hm k1 k2 k3 k4 k5
 obtain⟨m0,m1,m2,m3,m4,m5,m6,m7,m8,m9,m10,m11,rfl⟩:=Dr hm
 have HV:=Hd (And.intro k1 (And.intro k2 (And.intro k3 (And.intro k4 k5))))
 have x1l:=k4.lt
 clear hm k1 k2 k3 k4 k5
 simp only[frm,List.take_succ_cons,List.take_zero,List.drop_succ_cons,List.drop_zero,List.cons_append,List.nil_append]
 rename_i hk
 refine hk _ _ ?_
 obtain⟨R0,hR0⟩:∃R0:AE,R0=⟨.slice q1 q2 q3,.slice q4 q5 q6,.slice q7 q8 q9,.slice q10 q11 q12,.slice q13 q14 q15,.slice q16 q17 q18,.slice q19 q20 q21,.slice q22 q23 q24,.slice q25 q26 q27⟩:=⟨_,rfl⟩
 go_wp2_with fail
 obtain⟨X,hX⟩:∃X,X=V.alloc (.cells #[.pointer (some ⟨g,7,none⟩),.pointer (some ⟨g,8,none⟩),.pointer (some ⟨g,10,none⟩),.pointer (some ⟨g,11,none⟩),.pointer (some ⟨g,12,none⟩),.pointer (some ⟨g,13,none⟩)] 175):=⟨_,rfl⟩
 obtain⟨ga,hga⟩:∃ga,ga=V.heap.size:=⟨_,rfl⟩
 have HK0:Hid (KSt w p R0 g ga 0 {R0 with prov:=v1,obs:=v2,files:=v3} X):=Hd (by
  obtain⟨k1,k2,k3,k4,k5⟩:=HV.out
  have e0:W.heap.size=g+2:=by have:=HX.out.2.2.2;have:=HG.out;omega
  rw[e0]at k1 k2 k3
  have hb:=Ag V (.cells #[.pointer (some ⟨g,7,none⟩),.pointer (some ⟨g,8,none⟩),.pointer (some ⟨g,10,none⟩),.pointer (some ⟨g,11,none⟩),.pointer (some ⟨g,12,none⟩),.pointer (some ⟨g,13,none⟩)] 175)
  rw[hX,hga,hR0]
  refine⟨k4.bel' hb,(HX.out.2.1.touch k5 (by omega)).bel' hb,Blk.new _ _ _,k1.bel hb,k2.bel hb,k3.bel hb,fun j hj=>absurd hj (Nat.not_lt_zero j),fun j _ hj=> ?_,(HX.out.2.2.1.trans (k5.below HX.out.2.2.1.size fun b hb e=>by have:=HG.out;omega)).trans (hb.mono ?_),HG.out,?_⟩
  ·rcases Cp hj with rfl|rfl|rfl|rfl|rfl|rfl<;>rfl
  ·have:=k5.size;have:=HX.out.2.2.1.size;omega
  ·have:=k5.size;omega)
 have HPi:=Hd (show Ah Ai w p R0 from hR0▸HP.out)
 rw[←hX,←hga]
 clear hX hga hR0 HP HX HF HV x1l
 go_loopw [27] (fun i wr=>∃k:Nat,k≤6∧i= .int .i64 k∧∃r,Hid (KSt w p R0 g ga k r wr)) (fun i _=>6-(intOf i).toNat)
 case atStart=>exact⟨0,by omega,rfl,_,HK0.out⟩
 case round=>
  obtain⟨k,hk,rfl,r,HQ⟩:=hrel
  by_cases hlt:k<6
  ·have hki:(k:Int)<6:=by omega
   obtain⟨l,hl⟩:∃l,l=Ab (six p k):=⟨_,rfl⟩
   have hin:=Ql HPi.out hlt
   rw[←hl]at hin
   obtain⟨hsl,hsc⟩:=L4 HSm.out hlt
   rw[←hl]at hsl hsc
   obtain⟨fa,fc,hfe⟩:=hin.form
   have zp:=HQ.out.ptr hlt
   have zal:ga<wr.heap.size:=HQ.out.ba.lt
   have zc:wr.cell? ⟨g,fo k,none⟩=some (.slice fa l.length fc):=(HQ.out.cell hlt).trans (by rw[HQ.out.old k (Nat.le_refl _) hlt,hfe])
   have zl:g<wr.heap.size:=HQ.out.b0.lt
   have HM:Hid (Calls Tryz.prog 151 #[.slice fa l.length fc] wr (GW Aj 34 w wr l)):=Hd (hfe▸K1 w l _ wr hin HQ.out.bl hsl)
   have HL:=Hd hl
   have HLt:=Hd hlt
   have HSc:=Hd hsc
   clear hin hfe hl hsc
   go_wp2_with (first
    |(go_at_call 151;(with_reducible refine HM.out.mono ?_);rintro e w2 ⟨v',ps,rfl,k1,k2,k3,k4,k5⟩;obtain⟨ao,cp,rfl⟩:=Cl k3;have c2:w2.cell? ⟨g,fo k,none⟩=some (.slice fa l.length fc):=(World.cell?_of_block (w:=wr) (k5.block g zl)).trans zc;have f2:w2.frozen? ⟨g,fo k,none⟩=false:=(HQ.out.b0.bel' k5).frozen _;have l2:g<w2.heap.size:=(HQ.out.b0.bel' k5).lt;have HC:=Hd (And.intro k1 (And.intro k2 (And.intro k3 (And.intro k4 k5))));clear k1 k2 k3 k4 k5)
    |fail)
   obtain⟨wc,hwc⟩:∃wc,wc=w2.setCell ⟨g,fo k,none⟩ (.slice ao l.length cp):=⟨_,rfl⟩
   have HW:Hid (MSt w l (.slice ao l.length cp) wc 0 wc∧Blk wc g 29 (pC p (r.setF k (.slice ao l.length cp)))∧Ae (fun b=>b=g) wr wc∧(∀b,(Value.slice ao l.length cp).ownBlock=some b→wr.heap.size≤b∧b≠g)):=Hd (by
    obtain⟨k1,k2,k3,k4,k5⟩:=HC.out
    have hne:(Value.slice ao l.length cp).ownBlock≠some g:=fun e=>by have:=k4 g e;omega
    have hto:Ae (fun b=>b=g) wr wc:=by rw[hwc];exact(Ae.of_below k5 (fun b=>b=g)).setCell (fun _=>rfl) _
    rw[hwc]
    rw[hwc]at hto
    refine⟨⟨⟨ps,k1,k3.far hne _,fun i h hi=>absurd hi (Nat.not_lt_zero i),fun i h _=> ?_⟩,Ae.refl _ _⟩,?_,hto,fun b hb=>⟨k4 b hb,fun e=>hne (e▸hb)⟩⟩
    ·exact Aj.keep (k2 _ (List.getElem_mem h)) (Nat.le_refl _) fun _ _ _=>⟨rfl,trivial⟩
    ·have hb:=(HQ.out.b0.bel' k5).set_ (fo k) (.slice ao l.length cp)
     rw[OZ p r HLt.out]at hb
     exact hb)
   have zc2:wc.cell? ⟨g,fo k,none⟩=some (.slice ao l.length cp):=by rw[hwc];exact World.cell?_setCell_same _ _ _ c2
   rw[←hwc]
   clear hwc c2 f2 l2 zc zp zal HC HM
   obtain⟨wo,rfl⟩:∃wo,wo=wr:=⟨_,rfl⟩
   go_loopw [41] (fun i wx=>∃j:Nat,j≤l.length∧i= .int .i64 j∧Hid (MSt w l (.slice ao l.length cp) wc j wx)) (fun i _=>l.length-(intOf i).toNat)
   case atStart=>exact⟨0,by omega,rfl,Hd HW.out.1⟩
   case round=>
    obtain⟨j,hj,rfl,HJ⟩:=hrel
    by_cases hlj:j<l.length
    ·have hkj:(j:Int)<(l.length:Int):=by omega
     obtain⟨b,q,cap,s,e1,hcs,hia,hth,hbl⟩:=HJ.out.at_ hlj
     injection e1 with e1 _ e3
     subst e1 e3
     obtain⟨x,hx⟩:∃x,x=l[j]'hlj:=⟨_,rfl⟩
     rw[←hx]at hcs hia
     obtain⟨sa,sc,rfl⟩:=hia.form
     have x0:wr.cell? ⟨b,q+j*7,none⟩=some (.int .u8 x.kind):=hcs.2 0 (show 0<7 by omega)
     have x1:wr.cell? ⟨b,q+j*7+1,none⟩=some (.string x.dep.name):=hcs.2 1 (show 1<7 by omega)
     have x2:wr.cell? ⟨b,q+j*7+2,none⟩=some (.int .u8 x.dep.op):=hcs.2 2 (show 2<7 by omega)
     have x3:wr.cell? ⟨b,q+j*7+3,none⟩=some (.int .i64 x.dep.ep):=hcs.2 3 (show 3<7 by omega)
     have x4:wr.cell? ⟨b,q+j*7+4,none⟩=some (.string x.dep.ver):=hcs.2 4 (show 4<7 by omega)
     have x5:wr.cell? ⟨b,q+j*7+5,none⟩=some (.string x.dep.rel):=hcs.2 5 (show 5<7 by omega)
     have x6:wr.cell? ⟨b,q+j*7+6,none⟩=some (.slice sa x.n sc):=hcs.2 6 (show 6<7 by omega)
     have HX:=Hd (And.intro hx (And.intro hcs (And.intro hia (And.intro hth hbl))))
     have HLj:=Hd hlj
     have hbl':=hbl
     clear hx hcs hia hth hbl
     go_upto_region 9 with fail
     have hbn:=Ag wr (.cells #[.int .u8 x.kind,.string x.dep.name,.int .u8 x.dep.op,.int .i64 x.dep.ep,.string x.dep.ver,.string x.dep.rel,.slice sa x.n sc] 34)
     have hbx:=Blk.new wr 34 #[.int .u8 x.kind,.string x.dep.name,.int .u8 x.dep.op,.int .i64 x.dep.ep,.string x.dep.ver,.string x.dep.rel,.slice sa x.n sc]
     have hown:(Value.slice (some ⟨b,q,none⟩) l.length cp).ownBlock≠some g:=fun e=>(HW.out.2.2.2 g e).2 rfl
     have hbg:=(HW.out.2.1.touch HJ.out.tc hown).bel' hbn
     have hBw:Below w.heap.size w wr:=HQ.out.bl.trans (((HW.out.2.2.1.trans (G:=fun b'=>(Value.slice (some ⟨b,q,none⟩) l.length cp).ownBlock=some b') HJ.out.tc fun b' h1 h2=>by have:=(HW.out.2.2.2 b' h2).1;omega)).below HQ.out.bl.size fun b' h1 h2=>by have:=HQ.out.gw;omega)
     refine QL (w0:=w) (g:=g) (f:=fo k) (b:=b) (q:=q) (q':=q+j*7) (n:=l.length) (c:=cp) (j:=j) (gx:=wr.heap.size) (x:=x) (s:= .slice sa x.n sc) (cs:=pC p (r.setF k (.slice (some ⟨b,q,none⟩) l.length cp))) (by kernel_rfl) (by kernel_rfl) rfl rfl rfl hbg ((Nx p _ HLt.out).trans (by rw[Gw r HLt.out HLt.out,if_pos rfl])) HLj.out ⟨hbx.lt,fun i hi=>(hbx.cell _).trans (by rw[Nat.zero_add];simp[AM])⟩ HX.out.2.2.1 (Aa hBw hbn) (HSc.out x (HX.out.1▸List.getElem_mem _)) rfl (Nat.lt_of_lt_of_le HX.out.2.2.2.2 hbn.size) (fun i hi=>⟨by rw[World.cell?_of_block (w:=wr) (hbn.block b HX.out.2.2.2.2)];exact(HX.out.2.2.2.1 i hi).1,by rw[World.frozen?_of_block (w:=wr) (hbn.block b HX.out.2.2.2.2)];exact(HX.out.2.2.2.1 i hi).2⟩) (by kernel_rfl) (by kernel_rfl) (by kernel_rfl) (by kernel_rfl) ?_
     intro mid s' w1 hm k1 k2
     obtain⟨n0,n1,n2,n3,n4,n5,n6,rfl⟩:=Qj hm
     have HV:Hid (MSt w l (.slice (some ⟨b,q,none⟩) l.length cp) wc (j+1) (w1.setCells b (q+j*7) (AM x s'))):=Hd (by
      rw[HX.out.1]at k1 ⊢
      exact HJ.out.next HLj.out (Aa hbn k2) k1 (by rw[World.size_alloc];omega))
     clear hm k1 k2 hbn hbx hown hbg hBw
     simp only[frm,List.take_succ_cons,List.take_zero,List.drop_succ_cons,List.drop_zero,List.cons_append,List.nil_append]
     rename_i hk
     refine hk _ _ ?_
     go_wp2_with fail
     go_roundw
     case rel=>exact⟨j+1,HLj.out,by go_num,HV.out⟩
     case measure=>have:=HLj.out;simp[intOf];omega
    ·obtain rfl:j=l.length:=by omega
     have HN:Hid (KSt w p R0 g ga (k+1) (r.setF k (.slice ao l.length cp)) wr):=Hd (by
      have hown:(Value.slice ao l.length cp).ownBlock≠some g:=fun e=>(HW.out.2.2.2 g e).2 rfl
      have hs:=HQ.out.b1.lt
      have hs2:=HW.out.2.2.1.size
      refine HQ.out.next HLt.out (HW.out.2.2.1.trans HJ.out.tc fun b' h1 h2=>by have:=(HW.out.2.2.2 b' h2).1;omega) (HW.out.2.1.touch HJ.out.tc hown) ?_
      rw[←HL.out]
      exact HJ.out.done (by omega) (fun b' h2=>by have:=(HW.out.2.2.2 b' h2).1;omega) (by omega))
     go_wp2_with fail
     go_roundw
     case rel=>exact⟨k+1,HLt.out,by go_num,_,HN.out⟩
     case measure=>have:=HLt.out;simp[intOf];omega
  ·obtain rfl:k=6:=by omega
   have hpk:Ah (Am (g+2)) wr p r:=⟨HPi.out.s1,HPi.out.s2,HPi.out.s3,HPi.out.s4,HPi.out.ar,HPi.out.ep,HQ.out.prov,HQ.out.new 0 (by omega) (by omega),HQ.out.new 1 (by omega) (by omega),HQ.out.obs,HQ.out.new 2 (by omega) (by omega),HQ.out.new 3 (by omega) (by omega),HQ.out.new 4 (by omega) (by omega),HQ.out.new 5 (by omega) (by omega),HQ.out.files⟩
   have hb0:=HQ.out.b0
   have HB1:=Hd HQ.out.b1
   have HBl:=Hd (And.intro HQ.out.bl HQ.out.gw)
   have HPK:=Hd hpk
   obtain⟨⟨t1,t2,t3,e1⟩,⟨t4,t5,t6,e2⟩,⟨t7,t8,t9,e3⟩,⟨t10,t11,t12,e4⟩,⟨t13,t14,t15,e5⟩,⟨t16,t17,t18,e6⟩,⟨t19,t20,t21,e7⟩,⟨t22,t23,t24,e8⟩,⟨t25,t26,t27,e9⟩⟩:=hpk.forms
   clear hpk HQ
   rcases r with ⟨r0,r1,r2,r3,r4,r5,r6,r7,r8⟩
   dsimp only at e1 e2 e3 e4 e5 e6 e7 e8 e9
   subst e1 e2 e3 e4 e5 e6 e7 e8 e9
   have x0:=hb0.cell 0
   have x1:=hb0.cell 1
   have x2:=hb0.cell 2
   have x3:=hb0.cell 3
   have x4:=hb0.cell 4
   have x5:=hb0.cell 5
   have x6:=hb0.cell 6
   have x7:=hb0.cell 7
   have x8:=hb0.cell 8
   have x9:=hb0.cell 9
   have x10:=hb0.cell 10
   have x11:=hb0.cell 11
   have x12:=hb0.cell 12
   have x13:=hb0.cell 13
   have x14:=hb0.cell 14
   dsimp only[pC]at x0 x1 x2 x3 x4 x5 x6 x7 x8 x9 x10 x11 x12 x13 x14
   simp only[List.getElem?_toArray,List.getElem?_cons_zero,List.getElem?_cons_succ]at x0 x1 x2 x3 x4 x5 x6 x7 x8 x9 x10 x11 x12 x13 x14
   have xl:=hb0.lt
   have HP1:=Hd (OY HPK.out)
   clear hb0
   go_wp2_with (first
    |(refine wpList_store_rowTo rfl 29 (.tmp 2) (.tmp 55) rfl rfl (g+1) (pC p ⟨.slice t1 t2 t3,.slice t4 t5 t6,.slice t7 t8 t9,.slice t10 t11 t12,.slice t13 t14 t15,.slice t16 t17 t18,.slice t19 t20 t21,.slice t22 t23 t24,.slice t25 t26 t27⟩) rfl (by kernel_rfl) 29 (pC Da DF) HB1.out (by kernel_rfl) rfl HP1.out ?_)
    |fail)
   refine bodyPost_ret (results_cell_row rfl _ _ (g+1) 29 _ (0,0) _ rfl (HB1.out.row _) Tryz.underlying29 rfl (by kernel_rfl)) rfl ⟨⟨_,rfl,HPK.out.keep (by simp) fun b ⟨k1,k2⟩ _=> ?_⟩,GQ HBl.out.1 (by have:=HBl.out.2;omega) _⟩
   have hbk:=setRow_other wr (g+1) b (pC p ⟨.slice t1 t2 t3,.slice t4 t5 t6,.slice t7 t8 t9,.slice t10 t11 t12,.slice t13 t14 t15,.slice t16 t17 t18,.slice t19 t20 t21,.slice t22 t23 t24,.slice t25 t26 t27⟩) (by omega)
   exact⟨hbk,by have:=HBl.out.2;omega,fun i=>(World.frozen?_of_block (w:=wr) hbk).trans (k2 i)⟩
end Go.Proofs.YtdpjjnbelgaagaaGreatDoor
