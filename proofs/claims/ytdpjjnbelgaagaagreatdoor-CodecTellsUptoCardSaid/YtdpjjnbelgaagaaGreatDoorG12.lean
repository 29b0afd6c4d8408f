/- The document's comparisons of lists. Conditions: as each theorem names them. -/
import Derived.Test.YtdpjjnbelgaagaaGreatDoorG11
import Derived.Test.YtdpjjnbelgaagaaGreatDoorG04
import Derived.BigQuiet
import Derived.Test.YtdpjjnbelgaagaaGreatDoorG09
namespace Go.Proofs.YtdpjjnbelgaagaaGreatDoor
set_option maxHeartbeats 32000000
open Go.ChangeShapes Go.WideShapes Go.ChangeAt Go.RowKit Go.Deep
set_option maxRecDepth 100000
def eqL {α:Type} (f:α→α→Bool):List α→List α→Bool
 | [],[]=>true
 |x::a,y::b=>f x y && eqL f a b
 |_,_=>false
theorem Bp {α:Type} (f:α→α→Bool):∀a b:List α,eqL f a b=true↔a.length=b.length∧∀j (h1:j<a.length) (h2:j<b.length),f a[j] b[j]=true
 | [],[]=>⟨fun _=>⟨rfl,fun j h=>absurd h (Nat.not_lt_zero j)⟩,fun _=>rfl⟩
 | [],y::b=>⟨fun h=>(by cases h),fun h=>(by simp at h)⟩
 |x::a,[]=>⟨fun h=>(by cases h),fun h=>(by simp at h)⟩
 |x::a,y::b=>by
  show(f x y && eqL f a b)=true↔_
  rw[Bool.and_eq_true,Bp f a b]
  constructor
  ·rintro⟨h1,h2,h3⟩
   refine⟨by simp[h2],fun j k1 k2=> ?_⟩
   cases j with
   |zero=>exact h1
   |succ j=>exact h3 j (by simpa using k1) (by simpa using k2)
  ·rintro⟨h1,h2⟩
   exact⟨h2 0 (by simp) (by simp),by simpa using h1,fun j k1 k2=>h2 (j+1) (by simpa using k1) (by simpa using k2)⟩
theorem CO {α:Type} {f:α→α→Bool} {a b:List α} (h:¬a.length=b.length):eqL f a b=false:=by
 cases hb:eqL f a b with
 |false=>rfl
 |true=>exact absurd ((Bp f a b).1 hb).1 h
theorem BP {α:Type} {f:α→α→Bool} {a b:List α} {j:Nat} (h1:j<a.length) (h2:j<b.length) (h:f a[j] b[j]=false):eqL f a b=false:=by
 cases hb:eqL f a b with
 |false=>rfl
 |true=>
  have:=((Bp f a b).1 hb).2 j h1 h2
  rw[h]at this
  cases this
abbrev eqT:ByteArray→ByteArray→Bool:=fun x y=>decide (x=y)
theorem G7 (a b:List ByteArray) (va vb:Value) (w:World) (ha:LIn A2 Ai w a va) (hb:LIn A2 Ai w b vb):Calls Tryz.prog 103 #[va,vb] w fun e w'=>e= .returned (.bool (eqL eqT a b))∧Below w.heap.size w w':=by
 obtain⟨a1,c1,rfl⟩:=ha.form
 obtain⟨a2,c2,rfl⟩:=hb.form
 have hn1:=ha.bound
 have hn2:=hb.bound
 have HA:=Hd ha
 have HB:=Hd hb
 obtain⟨T,hT⟩:∃T,T=eqL eqT a b:=⟨_,rfl⟩
 rw[←hT]
 have HT:=Hd hT
 clear ha hb hT
 by_cases hnn:a.length=b.length
 ·have HNN:=Hd hnn
  obtain⟨n,hn⟩:∃n,n=a.length:=⟨_,rfl⟩
  have HLn:=Hd (show a.length=n∧b.length=n from⟨hn.symm,by omega⟩)
  rw[←hnn,←hn]
  rw[←hn]at hn1
  clear hn2 hnn hn
  go_enter Tryz.func103,Tryz.ntmps103
  go_wp2_with fail
  go_loopw [5] (fun i wr=>∃k:Nat,k≤n∧i= .int .i64 k∧Hid ((∀j (h1:j<a.length) (h2:j<b.length),j<k→eqT a[j] b[j]=true)∧Below w.heap.size w wr)) (fun i wr=>n-(intOf i).toNat)
  case atStart=>exact⟨0,by omega,rfl,⟨fun j _ _ h=>absurd h (Nat.not_lt_zero j),Below.refl _ _⟩⟩
  case round=>
   obtain⟨k,hk,rfl,HQ⟩:=hrel
   by_cases hlt:k<n
   ·have hki:(k:Int)<(n:Int):=by omega
    obtain⟨b1,o1,r1,ha1,_,hcs1,hh1⟩:=HA.out.at_ k (by have:=HLn.out;omega)
    have hvb:Value.slice a2 n c2= .slice a2 b.length c2:=by rw[HLn.out.2]
    obtain⟨b2,o2,r2,ha2,_,hcs2,hh2⟩:=HB.out.at_ k (by have:=HLn.out;omega)
    obtain⟨x,hx⟩:∃x,x=a[k]'(by have:=HLn.out;omega):=⟨_,rfl⟩
    obtain⟨y,hy⟩:∃y,y=b[k]'(by have:=HLn.out;omega):=⟨_,rfl⟩
    rw[←hx]at hcs1 hh1
    rw[←hy]at hcs2 hh2
    have HXY:=Hd (show∀(h1:k<a.length) (h2:k<b.length),a[k]=x∧b[k]=y from fun _ _=>⟨hx.symm,hy.symm⟩)
    subst ha1 ha2
    have hd1:=hcs1.below HQ.out.2
    have hd2:=hcs2.below HQ.out.2
    dsimp only[A2]at hd1 hd2
    have x0:wr.cell? ⟨b1,o1+k,none⟩=some (.string x):=(by have h:=hd1.2 0 (show 0<1 by omega);rwa [Nat.mul_one]at h)
    have y0:wr.cell? ⟨b2,o2+k,none⟩=some (.string y):=(by have h:=hd2.2 0 (show 0<1 by omega);rwa [Nat.mul_one]at h)
    have p1:=hd1.1
    have p2:=hd2.1
    clear hcs1 hcs2 hh1 hh2 hd1 hd2 hx hy hvb
    have HFr:=Hd HQ.out.2
    have HLt:=Hd hlt
    by_cases hq:x.toList=y.toList
    ·have HE:=Hd hq
     go_upto_region 6 with fail
     go_quiet (fail)
     go_wp2_with fail
     go_roundw
     case rel=>exact⟨k+1,by omega,by go_num,⟨fun j h1 h2 h3=>by
      by_cases hj:j<k
      ·exact HQ.out.1 j h1 h2 hj
      ·obtain rfl:j=k:=by omega
       obtain⟨e1,e2⟩:=HXY.out h1 h2
       rw[e1,e2]
       exact decide_eq_true (DX HE.out),AD HFr.out _⟩⟩
     case measure=>simp[intOf];omega
    ·have HN:=Hd hq
     have hq2:(x.toList==y.toList)=false:=by simpa using hq
     have HT2:=Hd (show T=false by
      rw[HT.out]
      have h1:k<a.length:=by have:=HLn.out;have:=HLt.out;omega
      have h2:k<b.length:=by have:=HLn.out;have:=HLt.out;omega
      obtain⟨e1,e2⟩:=HXY.out h1 h2
      exact BP h1 h2 (by rw[e1,e2];exact decide_eq_false fun e=>HN.out (by rw[e])))
     go_upto_region 6 with fail
     go_quiet (fail)
     go_wp2_with fail
     go_ret
     exact⟨Af HT2.out.symm,AD HFr.out _⟩
   ·obtain rfl:k=n:=by omega
    have HT2:=Hd (show T=true by rw[HT.out];exact(Bp _ _ _).2 ⟨HNN.out,fun j h1 h2=>HQ.out.1 j h1 h2 (by have:=HLn.out;omega)⟩)
    go_wp2_with fail
    go_ret
    exact⟨Af HT2.out.symm,HQ.out.2⟩
 ·have h1:¬(a.length:Int)=(b.length:Int):=by omega
  have HT2:=Hd (show T=false by rw[HT.out];exact CO hnn)
  clear hnn
  go_enter Tryz.func103,Tryz.ntmps103
  go_wp2_with fail
  go_ret
  exact⟨Af HT2.out.symm,Below.refl _ _⟩
theorem A3 (a b:List Ax) (va vb:Value) (w:World) (ha:LIn AW Ai w a va) (hb:LIn AW Ai w b vb):Calls Tryz.prog 101 #[va,vb] w fun e w'=>e= .returned (.bool (eqL Ar a b))∧Below w.heap.size w w':=by
 obtain⟨a1,c1,rfl⟩:=ha.form
 obtain⟨a2,c2,rfl⟩:=hb.form
 have hn1:=ha.bound
 have hn2:=hb.bound
 have HA:=Hd ha
 have HB:=Hd hb
 obtain⟨T,hT⟩:∃T,T=eqL Ar a b:=⟨_,rfl⟩
 rw[←hT]
 have HT:=Hd hT
 clear ha hb hT
 by_cases hnn:a.length=b.length
 ·have HNN:=Hd hnn
  obtain⟨n,hn⟩:∃n,n=a.length:=⟨_,rfl⟩
  have HLn:=Hd (show a.length=n∧b.length=n from⟨hn.symm,by omega⟩)
  rw[←hnn,←hn]
  rw[←hn]at hn1
  clear hn2 hnn hn
  go_enter Tryz.func101,Tryz.ntmps101
  go_wp2_with fail
  go_loopw [5] (fun i wr=>∃k:Nat,k≤n∧i= .int .i64 k∧Hid ((∀j (h1:j<a.length) (h2:j<b.length),j<k→Ar a[j] b[j]=true)∧Below w.heap.size w wr)) (fun i wr=>n-(intOf i).toNat)
  case atStart=>exact⟨0,by omega,rfl,⟨fun j _ _ h=>absurd h (Nat.not_lt_zero j),Below.refl _ _⟩⟩
  case round=>
   obtain⟨k,hk,rfl,HQ⟩:=hrel
   by_cases hlt:k<n
   ·have hki:(k:Int)<(n:Int):=by omega
    obtain⟨b1,o1,r1,ha1,_,hcs1,hh1⟩:=HA.out.at_ k (by have:=HLn.out;omega)
    have hvb:Value.slice a2 n c2= .slice a2 b.length c2:=by rw[HLn.out.2]
    obtain⟨b2,o2,r2,ha2,_,hcs2,hh2⟩:=HB.out.at_ k (by have:=HLn.out;omega)
    obtain⟨x,hx⟩:∃x,x=a[k]'(by have:=HLn.out;omega):=⟨_,rfl⟩
    obtain⟨y,hy⟩:∃y,y=b[k]'(by have:=HLn.out;omega):=⟨_,rfl⟩
    rw[←hx]at hcs1 hh1
    rw[←hy]at hcs2 hh2
    have HXY:=Hd (show∀(h1:k<a.length) (h2:k<b.length),a[k]=x∧b[k]=y from fun _ _=>⟨hx.symm,hy.symm⟩)
    subst ha1 ha2
    have hd1:=hcs1.below HQ.out.2
    have hd2:=hcs2.below HQ.out.2
    dsimp only[AW]at hd1 hd2
    have x0:wr.cell? ⟨b1,o1+k*5,none⟩=some (.string x.name):=hd1.2 0 (show 0<5 by omega)
    have x1:wr.cell? ⟨b1,o1+k*5+1,none⟩=some (.int .u8 x.op):=hd1.2 1 (show 1<5 by omega)
    have x2:wr.cell? ⟨b1,o1+k*5+2,none⟩=some (.int .i64 x.ep):=hd1.2 2 (show 2<5 by omega)
    have x3:wr.cell? ⟨b1,o1+k*5+3,none⟩=some (.string x.ver):=hd1.2 3 (show 3<5 by omega)
    have x4:wr.cell? ⟨b1,o1+k*5+4,none⟩=some (.string x.rel):=hd1.2 4 (show 4<5 by omega)
    have y0:wr.cell? ⟨b2,o2+k*5,none⟩=some (.string y.name):=hd2.2 0 (show 0<5 by omega)
    have y1:wr.cell? ⟨b2,o2+k*5+1,none⟩=some (.int .u8 y.op):=hd2.2 1 (show 1<5 by omega)
    have y2:wr.cell? ⟨b2,o2+k*5+2,none⟩=some (.int .i64 y.ep):=hd2.2 2 (show 2<5 by omega)
    have y3:wr.cell? ⟨b2,o2+k*5+3,none⟩=some (.string y.ver):=hd2.2 3 (show 3<5 by omega)
    have y4:wr.cell? ⟨b2,o2+k*5+4,none⟩=some (.string y.rel):=hd2.2 4 (show 4<5 by omega)
    have p1:=hd1.1
    have p2:=hd2.1
    clear hcs1 hcs2 hh1 hh2 hd1 hd2 hx hy hvb
    have HFr:=Hd HQ.out.2
    have HLt:=Hd hlt
    by_cases e0:x.name.toList=y.name.toList
    ·by_cases e1:x.op=y.op
     ·by_cases e2:x.ep=y.ep
      ·by_cases e3:x.ver.toList=y.ver.toList
       ·by_cases e4:x.rel.toList=y.rel.toList
        ·have HE:=Hd (show x.name.toList=y.name.toList∧x.op=y.op∧x.ep=y.ep∧x.ver.toList=y.ver.toList∧x.rel.toList=y.rel.toList from⟨e0,e1,e2,e3,e4⟩)
         go_upto_region 6 with fail
         go_region
         go_wp2_with fail
         go_roundw
         case rel=>exact⟨k+1,by omega,by go_num,⟨fun j h1 h2 h3=>by
          by_cases hj:j<k
          ·exact HQ.out.1 j h1 h2 hj
          ·obtain rfl:j=k:=by omega
           obtain⟨e1,e2⟩:=HXY.out h1 h2
           rw[e1,e2]
           exact EU HE.out.1 HE.out.2.1 HE.out.2.2.1 HE.out.2.2.2.1 HE.out.2.2.2.2,by(first|exact HFr.out|exact HFr.out.drew|exact AD HFr.out _)⟩⟩
         case measure=>simp[intOf];omega
        ·have HN:=Hd e4
         have HT2:=Hd (show T=false by
          rw[HT.out]
          have h1:k<a.length:=by have:=HLn.out;have:=HLt.out;omega
          have h2:k<b.length:=by have:=HLn.out;have:=HLt.out;omega
          obtain⟨e1,e2⟩:=HXY.out h1 h2
          exact BP h1 h2 (by rw[e1,e2];exact FX HN.out))
         go_upto_region 6 with fail
         go_region
         go_wp2_with fail
         go_ret
         exact⟨Af HT2.out.symm,by(first|exact HFr.out|exact HFr.out.drew|exact AD HFr.out _)⟩
       ·have HN:=Hd e3
        have HT2:=Hd (show T=false by
         rw[HT.out]
         have h1:k<a.length:=by have:=HLn.out;have:=HLt.out;omega
         have h2:k<b.length:=by have:=HLn.out;have:=HLt.out;omega
         obtain⟨e1,e2⟩:=HXY.out h1 h2
         exact BP h1 h2 (by rw[e1,e2];exact FW HN.out))
        go_upto_region 6 with fail
        go_region
        go_wp2_with fail
        go_ret
        exact⟨Af HT2.out.symm,by(first|exact HFr.out|exact HFr.out.drew|exact AD HFr.out _)⟩
      ·have HN:=Hd e2
       have HT2:=Hd (show T=false by
        rw[HT.out]
        have h1:k<a.length:=by have:=HLn.out;have:=HLt.out;omega
        have h2:k<b.length:=by have:=HLn.out;have:=HLt.out;omega
        obtain⟨e1,e2⟩:=HXY.out h1 h2
        exact BP h1 h2 (by rw[e1,e2];exact IR HN.out))
       go_upto_region 6 with fail
       go_region
       go_wp2_with fail
       go_ret
       exact⟨Af HT2.out.symm,by(first|exact HFr.out|exact HFr.out.drew|exact AD HFr.out _)⟩
     ·have HN:=Hd e1
      have HT2:=Hd (show T=false by
       rw[HT.out]
       have h1:k<a.length:=by have:=HLn.out;have:=HLt.out;omega
       have h2:k<b.length:=by have:=HLn.out;have:=HLt.out;omega
       obtain⟨e1,e2⟩:=HXY.out h1 h2
       exact BP h1 h2 (by rw[e1,e2];exact IQ HN.out))
      go_upto_region 6 with fail
      go_region
      go_wp2_with fail
      go_ret
      exact⟨Af HT2.out.symm,by(first|exact HFr.out|exact HFr.out.drew|exact AD HFr.out _)⟩
    ·have HN:=Hd e0
     have HT2:=Hd (show T=false by
      rw[HT.out]
      have h1:k<a.length:=by have:=HLn.out;have:=HLt.out;omega
      have h2:k<b.length:=by have:=HLn.out;have:=HLt.out;omega
      obtain⟨e1,e2⟩:=HXY.out h1 h2
      exact BP h1 h2 (by rw[e1,e2];exact ET HN.out))
     go_upto_region 6 with fail
     go_region
     go_wp2_with fail
     go_ret
     exact⟨Af HT2.out.symm,by(first|exact HFr.out|exact HFr.out.drew|exact AD HFr.out _)⟩
   ·obtain rfl:k=n:=by omega
    have HT2:=Hd (show T=true by rw[HT.out];exact(Bp _ _ _).2 ⟨HNN.out,fun j h1 h2=>HQ.out.1 j h1 h2 (by have:=HLn.out;omega)⟩)
    go_wp2_with fail
    go_ret
    exact⟨Af HT2.out.symm,HQ.out.2⟩
 ·have h1:¬(a.length:Int)=(b.length:Int):=by omega
  have HT2:=Hd (show T=false by rw[HT.out];exact CO hnn)
  clear hnn
  go_enter Tryz.func101,Tryz.ntmps101
  go_wp2_with fail
  go_ret
  exact⟨Af HT2.out.symm,Below.refl _ _⟩
theorem Ap (a b:List Ac) (va vb:Value) (w:World) (ha:LIn Aj Ai w a va) (hb:LIn Aj Ai w b vb):Calls Tryz.prog 102 #[va,vb] w fun e w'=>e= .returned (.bool (eqL As a b))∧Below w.heap.size w w':=by
 obtain⟨a1,c1,rfl⟩:=ha.form
 obtain⟨a2,c2,rfl⟩:=hb.form
 have hn1:=ha.bound
 have hn2:=hb.bound
 have HA:=Hd ha
 have HB:=Hd hb
 obtain⟨T,hT⟩:∃T,T=eqL As a b:=⟨_,rfl⟩
 rw[←hT]
 have HT:=Hd hT
 clear ha hb hT
 by_cases hnn:a.length=b.length
 ·have HNN:=Hd hnn
  obtain⟨n,hn⟩:∃n,n=a.length:=⟨_,rfl⟩
  have HLn:=Hd (show a.length=n∧b.length=n from⟨hn.symm,by omega⟩)
  rw[←hnn,←hn]
  rw[←hn]at hn1
  clear hn2 hnn hn
  go_enter Tryz.func102,Tryz.ntmps102
  go_wp2_with fail
  go_loopw [5] (fun i wr=>∃k:Nat,k≤n∧i= .int .i64 k∧Hid ((∀j (h1:j<a.length) (h2:j<b.length),j<k→As a[j] b[j]=true)∧Below w.heap.size w wr)) (fun i wr=>n-(intOf i).toNat)
  case atStart=>exact⟨0,by omega,rfl,⟨fun j _ _ h=>absurd h (Nat.not_lt_zero j),Below.refl _ _⟩⟩
  case round=>
   obtain⟨k,hk,rfl,HQ⟩:=hrel
   by_cases hlt:k<n
   ·have hki:(k:Int)<(n:Int):=by omega
    obtain⟨b1,o1,r1,ha1,_,hcs1,hh1⟩:=HA.out.at_ k (by have:=HLn.out;omega)
    obtain⟨b2,o2,r2,ha2,_,hcs2,hh2⟩:=HB.out.at_ k (by have:=HLn.out;omega)
    obtain⟨x,hx⟩:∃x,x=a[k]'(by have:=HLn.out;omega):=⟨_,rfl⟩
    obtain⟨y,hy⟩:∃y,y=b[k]'(by have:=HLn.out;omega):=⟨_,rfl⟩
    rw[←hx]at hcs1 hh1
    rw[←hy]at hcs2 hh2
    have HXY:=Hd (show∀(h1:k<a.length) (h2:k<b.length),a[k]=x∧b[k]=y from fun _ _=>⟨hx.symm,hy.symm⟩)
    subst ha1 ha2
    dsimp only[Aj]at hcs1 hcs2 r1 r2
    have hi1:Au w x r1:=AZ.is hh1
    have hi2:Au w y r2:=AZ.is hh2
    obtain⟨xa,xc,rfl⟩:=hi1.form
    obtain⟨ya,yc,rfl⟩:=hi2.form
    have HFr:=Hd HQ.out.2
    have HLt:=Hd hlt
    have hd1:=hcs1.below HFr.out
    have hd2:=hcs2.below HFr.out
    obtain⟨bb,hbb⟩:∃bb,bb=As x y:=⟨_,rfl⟩
    have HBb:=Hd hbb
    have HM:=Hd (show∀w',Below wr.heap.size wr w'→Calls Tryz.prog 148 #[x.val (.slice xa x.n xc),y.val (.slice ya y.n yc)] w' fun e w''=>e= .returned (.bool bb)∧Below w'.heap.size w' w'' from fun w' h=>hbb▸Md w x _ y _ w' hi1 hi2 (Aa HFr.out h))
    have HSS:=Hd (show∀w',Below wr.heap.size wr w'→(w'.cell? ⟨b1,o1+k*7,none⟩=some (.int .u8 x.kind)∧w'.cell? ⟨b1,o1+k*7+1,none⟩=some (.string x.dep.name)∧w'.cell? ⟨b1,o1+k*7+2,none⟩=some (.int .u8 x.dep.op)∧w'.cell? ⟨b1,o1+k*7+3,none⟩=some (.int .i64 x.dep.ep)∧w'.cell? ⟨b1,o1+k*7+4,none⟩=some (.string x.dep.ver)∧w'.cell? ⟨b1,o1+k*7+5,none⟩=some (.string x.dep.rel)∧w'.cell? ⟨b1,o1+k*7+6,none⟩=some (.slice xa x.n xc)∧w'.cell? ⟨b2,o2+k*7,none⟩=some (.int .u8 y.kind)∧w'.cell? ⟨b2,o2+k*7+1,none⟩=some (.string y.dep.name)∧w'.cell? ⟨b2,o2+k*7+2,none⟩=some (.int .u8 y.dep.op)∧w'.cell? ⟨b2,o2+k*7+3,none⟩=some (.int .i64 y.dep.ep)∧w'.cell? ⟨b2,o2+k*7+4,none⟩=some (.string y.dep.ver)∧w'.cell? ⟨b2,o2+k*7+5,none⟩=some (.string y.dep.rel)∧w'.cell? ⟨b2,o2+k*7+6,none⟩=some (.slice ya y.n yc))from fun w' h=>by
     have h1:=hd1.below h
     have h2:=hd2.below h
     exact⟨h1.2 0 (show 0<7 by omega),h1.2 1 (show 1<7 by omega),h1.2 2 (show 2<7 by omega),h1.2 3 (show 3<7 by omega),h1.2 4 (show 4<7 by omega),h1.2 5 (show 5<7 by omega),h1.2 6 (show 6<7 by omega),h2.2 0 (show 0<7 by omega),h2.2 1 (show 1<7 by omega),h2.2 2 (show 2<7 by omega),h2.2 3 (show 3<7 by omega),h2.2 4 (show 4<7 by omega),h2.2 5 (show 5<7 by omega),h2.2 6 (show 6<7 by omega)⟩)
    have HDr:=Hd (show Below wr.heap.size wr wr.drew from(Below.refl _ wr).drew)
    have x0:wr.cell? ⟨b1,o1+k*7,none⟩=some (.int .u8 x.kind):=hd1.2 0 (show 0<7 by omega)
    have y0:wr.cell? ⟨b2,o2+k*7,none⟩=some (.int .u8 y.kind):=hd2.2 0 (show 0<7 by omega)
    have x1:wr.cell? ⟨b1,o1+k*7+1,none⟩=some (.string x.dep.name):=hd1.2 1 (show 1<7 by omega)
    have y1:wr.cell? ⟨b2,o2+k*7+1,none⟩=some (.string y.dep.name):=hd2.2 1 (show 1<7 by omega)
    have x2:wr.cell? ⟨b1,o1+k*7+2,none⟩=some (.int .u8 x.dep.op):=hd1.2 2 (show 2<7 by omega)
    have y2:wr.cell? ⟨b2,o2+k*7+2,none⟩=some (.int .u8 y.dep.op):=hd2.2 2 (show 2<7 by omega)
    have x3:wr.cell? ⟨b1,o1+k*7+3,none⟩=some (.int .i64 x.dep.ep):=hd1.2 3 (show 3<7 by omega)
    have y3:wr.cell? ⟨b2,o2+k*7+3,none⟩=some (.int .i64 y.dep.ep):=hd2.2 3 (show 3<7 by omega)
    have x4:wr.cell? ⟨b1,o1+k*7+4,none⟩=some (.string x.dep.ver):=hd1.2 4 (show 4<7 by omega)
    have y4:wr.cell? ⟨b2,o2+k*7+4,none⟩=some (.string y.dep.ver):=hd2.2 4 (show 4<7 by omega)
    have x5:wr.cell? ⟨b1,o1+k*7+5,none⟩=some (.string x.dep.rel):=hd1.2 5 (show 5<7 by omega)
    have y5:wr.cell? ⟨b2,o2+k*7+5,none⟩=some (.string y.dep.rel):=hd2.2 5 (show 5<7 by omega)
    have x6:wr.cell? ⟨b1,o1+k*7+6,none⟩=some (.slice xa x.n xc):=hd1.2 6 (show 6<7 by omega)
    have y6:wr.cell? ⟨b2,o2+k*7+6,none⟩=some (.slice ya y.n yc):=hd2.2 6 (show 6<7 by omega)
    have p1:=hd1.1
    have p2:=hd2.1
    clear hcs1 hcs2 hh1 hh2 hd1 hd2 hx hy hbb hi1 hi2
    go_upto_region 6 with fail
    go_region_held3 (fun w'=>w'.cell? ⟨b1,o1+k*7,none⟩=some (.int .u8 x.kind)∧w'.cell? ⟨b1,o1+k*7+1,none⟩=some (.string x.dep.name)∧w'.cell? ⟨b1,o1+k*7+2,none⟩=some (.int .u8 x.dep.op)∧w'.cell? ⟨b1,o1+k*7+3,none⟩=some (.int .i64 x.dep.ep)∧w'.cell? ⟨b1,o1+k*7+4,none⟩=some (.string x.dep.ver)∧w'.cell? ⟨b1,o1+k*7+5,none⟩=some (.string x.dep.rel)∧w'.cell? ⟨b1,o1+k*7+6,none⟩=some (.slice xa x.n xc)∧w'.cell? ⟨b2,o2+k*7,none⟩=some (.int .u8 y.kind)∧w'.cell? ⟨b2,o2+k*7+1,none⟩=some (.string y.dep.name)∧w'.cell? ⟨b2,o2+k*7+2,none⟩=some (.int .u8 y.dep.op)∧w'.cell? ⟨b2,o2+k*7+3,none⟩=some (.int .i64 y.dep.ep)∧w'.cell? ⟨b2,o2+k*7+4,none⟩=some (.string y.dep.ver)∧w'.cell? ⟨b2,o2+k*7+5,none⟩=some (.string y.dep.rel)∧w'.cell? ⟨b2,o2+k*7+6,none⟩=some (.slice ya y.n yc)) (exact HSS.out _ HDr.out)
     ((first
       |(go_at_call 148;(with_reducible refine(HM.out _ HDr.out).mono ?_);rintro e w1 ⟨rfl,HBc⟩;have HDr:=Hd (Aa HDr.out HBc);clear HBc)))
    have HRx:=Hd (show Below w.heap.size w w1 from Aa HFr.out HDr.out)
    cases bb with
    |true=>
     go_wp2_with fail
     go_roundw
     case rel=>exact⟨k+1,by omega,by go_num,⟨fun j h1 h2 h3=>by
      by_cases hj:j<k
      ·exact HQ.out.1 j h1 h2 hj
      ·obtain rfl:j=k:=by omega
       obtain⟨e1,e2⟩:=HXY.out h1 h2
       rw[e1,e2]
       exact HBb.out.symm,HRx.out⟩⟩
     case measure=>simp[intOf];omega
    |false=>
     have HT2:=Hd (show T=false by
      rw[HT.out]
      have h1:k<a.length:=by have:=HLn.out;have:=HLt.out;omega
      have h2:k<b.length:=by have:=HLn.out;have:=HLt.out;omega
      obtain⟨e1,e2⟩:=HXY.out h1 h2
      exact BP h1 h2 (by rw[e1,e2];exact HBb.out.symm))
     go_wp2_with fail
     go_ret
     exact⟨Af HT2.out.symm,HRx.out⟩
   ·obtain rfl:k=n:=by omega
    have HT2:=Hd (show T=true by rw[HT.out];exact(Bp _ _ _).2 ⟨HNN.out,fun j h1 h2=>HQ.out.1 j h1 h2 (by have:=HLn.out;omega)⟩)
    go_wp2_with fail
    go_ret
    exact⟨Af HT2.out.symm,HQ.out.2⟩
 ·have h1:¬(a.length:Int)=(b.length:Int):=by omega
  have HT2:=Hd (show T=false by rw[HT.out];exact CO hnn)
  clear hnn
  go_enter Tryz.func102,Tryz.ntmps102
  go_wp2_with fail
  go_ret
  exact⟨Af HT2.out.symm,Below.refl _ _⟩
def Ak (p q:Aq):Bool:=decide (p.name.toList=q.name.toList) && (decide (p.ep=q.ep) && (decide (p.ver.toList=q.ver.toList) && (decide (p.rel.toList=q.rel.toList) && (decide (p.arch=q.arch) && (decide (p.vendor.toList=q.vendor.toList) && (eqL Ar p.prov q.prov && (eqL As (Ab p.req) (Ab q.req) && (eqL As (Ab p.con) (Ab q.con) && (eqL Ar p.obs q.obs && (eqL As (Ab p.reco) (Ab q.reco) && (eqL As (Ab p.sup) (Ab q.sup) && (eqL As (Ab p.sug) (Ab q.sug) && (eqL As (Ab p.enh) (Ab q.enh) && (eqL eqT p.files q.files))))))))))))))
theorem Bo (w:World) (c1 c2:Array Value) (t:TypeId):∃W,Hid (Blk W w.heap.size t c1∧Blk W (w.heap.size+1) t c2∧Below w.heap.size w W)∧Hid (Below W.heap.size W ((w.alloc (.cells c1 t)).alloc (.cells c2 t))):=by
 have hx2:=Blk.new (w.alloc (.cells c1 t)) t c2
 rw[World.size_alloc]at hx2
 exact⟨_,Hd ⟨(Blk.new w t c1).below (Ag _ _) (Blk.new w t c1).lt,hx2,Aa (Ag _ _) (Ag _ _)⟩,Hd (Below.refl _ _)⟩
theorem Ef (w:World) (c1 c2:Array Value) (t:TypeId):∃W,W=(w.alloc (.cells c1 t)).alloc (.cells c2 t)∧Hid (Blk W w.heap.size t c1∧Blk W (w.heap.size+1) t c2∧Below w.heap.size w W):=by
 have hx2:=Blk.new (w.alloc (.cells c1 t)) t c2
 rw[World.size_alloc]at hx2
 exact⟨_,rfl,Hd ⟨(Blk.new w t c1).below (Ag _ _) (Blk.new w t c1).lt,hx2,Aa (Ag _ _) (Ag _ _)⟩⟩
theorem LIn.bl' {α:Type} {K:Kd α} {w w':World} {l:List α} {v:Value} (h:LIn K Ai w l v) (hb:Below w.heap.size w w'):LIn K Ai w' l v:=h.below hb fun _ _ _=>trivial
theorem Aw {F:Nat} {args:Array Value} {w:World} {c b:Bool} (h:Calls Tryz.prog F args w fun e w'=>e= .returned (.bool c)∧Below w.heap.size w w') (e:c=b):Calls Tryz.prog F args w fun e w'=>e= .returned (.bool b)∧Below w.heap.size w w':=e▸h
abbrev D9 (w:World):Ending→World→Prop:=fun e w'=>(∃m:Int,e= .returned (.int .i64 m))∧Below w.heap.size w w'
theorem Nf (r:Ac):∀(s:Value) (n:Int) (w0 w:World),Au w0 r s→Below w0.heap.size w0 w→Calls Tryz.prog 82 #[s,.int .i64 n] w (D9 w):=by
 have step:∀(r:Ac) (s:Value) (n:Int) (w0 w:World),Au w0 r s→Below w0.heap.size w0 w→
  (∀j,j<r.n→∀(s:Value) (n:Int) (w0 w:World),Au w0 (r.args j) s→Below w0.heap.size w0 w→Calls Tryz.prog 82 #[s,.int .i64 n] w (D9 w))→Calls Tryz.prog 82 #[s,.int .i64 n] w (D9 w):=by
  intro r s n w0 w hs hB ih
  obtain⟨a,c,rfl⟩:=hs.form
  have hn:=hs.bound
  obtain⟨S,hA,hS⟩:=hs.elems2
  have HE:=Hd (show∀w',Below w0.heap.size w0 w'→∀j,j<r.n→(∃b o,a=some ⟨b,o,none⟩∧AH w' b (o+j*7) (r.args j) (S j))from fun w' h j hj=>by
   obtain⟨b,o,h1,h2⟩:=hA j hj
   exact⟨b,o,h1,h2.below h⟩)
  have HI:=Hd (show∀j,j<r.n→∀(n:Int) w',Below w0.heap.size w0 w'→Calls Tryz.prog 82 #[S j,.int .i64 n] w' (D9 w')from fun j hj n w' h=>ih j hj _ n w0 w' (hS j hj) h)
  have HSf:=Hd (show∀j,j<r.n→(∃a' c',S j= .slice a' (r.args j).n c')from fun j hj=>(hS j hj).form)
  have HBW:=Hd hB
  clear hA hS hs ih hB
  go_enter Tryz.func82,Tryz.ntmps82
  go_wp2_with fail
  go_loopw [5,6] (fun x i wr=>∃(k:Nat) (m:Int),k≤r.n∧i= .int .i64 k∧x= .int .i64 m∧Hid (Below w.heap.size w wr)) (fun _ i _=>r.n-(intOf i).toNat)
  case atStart=>exact⟨0,0,by omega,rfl,rfl,Below.refl _ _⟩
  case round=>
   obtain⟨k,m,hk,rfl,rfl,HQ⟩:=hrel
   by_cases hlt:k<r.n
   ·have hki:(k:Int)<(r.n:Int):=by omega
    by_cases hm:m<n
    ·have HB2:=Hd (HBW.out.trans (HQ.out.mono HBW.out.size))
     obtain⟨b,o,ha,hy1⟩:=HE.out wr HB2.out k hlt
     subst ha
     obtain⟨xa,xc,hx⟩:=HSf.out k hlt
     have HM:=Hd (fun(n:Int) w' (h:Below wr.heap.size wr w')=>HI.out k hlt n w' (HB2.out.trans (h.mono HB2.out.size)))
     simp only[hx]at HM
     have HSS:=Hd (show∀w',Below wr.heap.size wr w'→(w'.cell? ⟨b,o+k*7+1,none⟩=some (.string (r.args k).dep.name)∧w'.cell? ⟨b,o+k*7+6,none⟩=some (.slice xa (r.args k).n xc))from fun w' h=>by
      obtain⟨p0,p1,p2,p3,p4,p5,p6,_⟩:=hy1.below h
      rw[hx]at p6
      exact⟨p1,p6⟩)
     have HDr:=Hd (show Below wr.heap.size wr wr.drew from(Below.refl _ wr).drew)
     obtain⟨y0,y1,y2,y3,y4,y5,y6,y7⟩:=hy1
     simp only[hx]at y6
     clear y0 y2 y3 y4 y5
     go_upto_region 5 with fail
     go_region_held3 (fun w'=>w'.cell? ⟨b,o+k*7+1,none⟩=some (.string (r.args k).dep.name)∧w'.cell? ⟨b,o+k*7+6,none⟩=some (.slice xa (r.args k).n xc)) (exact HSS.out _ HDr.out)
      ((first
        |(go_at_call 82;(with_reducible refine(HM.out _ _ HDr.out).mono ?_);rintro e w1 ⟨⟨q,rfl⟩,HBc⟩;have HDr:=Hd (Aa HDr.out HBc);clear HBc)))
     have HRx:=Hd (show Below w.heap.size w w1 from Aa HQ.out HDr.out)
     go_wp2_with fail
     go_roundw
     case rel=>exact⟨k+1,_,by omega,by go_num,rfl,HRx⟩
     case measure=>simp[intOf];omega
    ·go_wp2_with fail
     go_ret
     exact⟨⟨_,rfl⟩,HQ.out⟩
   ·obtain rfl:k=r.n:=by omega
    go_wp2_with fail
    go_ret
    exact⟨⟨_,rfl⟩,HQ.out⟩
 induction r with
 |nil=>exact fun s n w0 w h1 h2=>step .nil s n w0 w h1 h2 (fun j hj=>absurd hj (Nat.not_lt_zero j))
 |node k d n f ih=>exact fun s m w0 w h1 h2=>step (.node k d n f) s m w0 w h1 h2 (fun j _=>ih j)
theorem Fp (r:Ac) (v:Value) (n:Int) (w0 w:World) (h:LIn Aj Ai w0 (Ab r) v) (hB:Below w0.heap.size w0 w):Calls Tryz.prog 82 #[v,.int .i64 n] w (D9 w):=by
 have h2:LIn Aj Ai w0 (Ab (ofL 0 (Ab r))) v:=by rw[Bw];exact h
 exact Nf _ v n w0 w (AZ.is (h2.args ⟨BL,by show(0:Int)≤0;decide,by show(0:Int)<256;decide⟩)) hB
theorem L3 (l:List Aq) (vl:Value) (n:Int) (w0 w:World) (hl:LIn AN Ai w0 l vl) (hB:Below w0.heap.size w0 w):Calls Tryz.prog 39 #[vl,.int .i64 n] w (D9 w):=by
 obtain⟨al,cl,rfl⟩:=hl.form
 have hn:=hl.bound
 have HL:=Hd hl
 have HBW:=Hd hB
 clear hl hB
 go_enter Tryz.func39,Tryz.ntmps39
 go_wp2_with fail
 go_loopw [5,6] (fun x i wr=>∃(k:Nat) (m:Int),k≤l.length∧i= .int .i64 k∧x= .int .i64 m∧Hid (Below w.heap.size w wr)) (fun _ i _=>l.length-(intOf i).toNat)
 case atStart=>exact⟨0,0,by omega,rfl,rfl,Below.refl _ _⟩
 case round=>
  obtain⟨k,m,hk,rfl,rfl,HQ⟩:=hrel
  by_cases hlt:k<l.length
  ·have hki:(k:Int)<(l.length:Int):=by omega
   have HLt:=Hd hlt
   by_cases hm:m<n
   ·have HB2:=Hd (HBW.out.trans (HQ.out.mono HBW.out.size))
    obtain⟨b,o,r,ha,_,hcs0,hh⟩:=HL.out.at_ k hlt
    obtain⟨p,hp⟩:∃p,p=l[k]'hlt:=⟨_,rfl⟩
    rw[←hp]at hcs0 hh
    subst ha
    dsimp only[AN]at hcs0 r
    rcases r with ⟨r0,r1,r2,r3,r4,r5,r6,r7,r8⟩
    have hh':Ah Ai w0 p ⟨r0,r1,r2,r3,r4,r5,r6,r7,r8⟩:=hh
    obtain⟨a0,c0,(rfl:r0=_)⟩:=hh'.prov.form
    obtain⟨a1,c1,(rfl:r1=_)⟩:=hh'.req.form
    obtain⟨a2,c2,(rfl:r2=_)⟩:=hh'.con.form
    obtain⟨a3,c3,(rfl:r3=_)⟩:=hh'.obs.form
    obtain⟨a4,c4,(rfl:r4=_)⟩:=hh'.reco.form
    obtain⟨a5,c5,(rfl:r5=_)⟩:=hh'.sup.form
    obtain⟨a6,c6,(rfl:r6=_)⟩:=hh'.sug.form
    obtain⟨a7,c7,(rfl:r7=_)⟩:=hh'.enh.form
    obtain⟨a8,c8,(rfl:r8=_)⟩:=hh'.files.form
    have HP:=Hd hh'
    have hfn:=hh'.files.bound
    clear hh' hh hp
    have hcs:=hcs0.below HB2.out
    have e0:wr.cell? ⟨b,o+k*15,none⟩=some (.string p.name):=hcs.2 0 (show 0<15 by omega)
    have e1:wr.cell? ⟨b,o+k*15+1,none⟩=some (.int .i64 p.ep):=hcs.2 1 (show 1<15 by omega)
    have e2:wr.cell? ⟨b,o+k*15+2,none⟩=some (.string p.ver):=hcs.2 2 (show 2<15 by omega)
    have e3:wr.cell? ⟨b,o+k*15+3,none⟩=some (.string p.rel):=hcs.2 3 (show 3<15 by omega)
    have e4:wr.cell? ⟨b,o+k*15+4,none⟩=some (.int .u8 p.arch):=hcs.2 4 (show 4<15 by omega)
    have e5:wr.cell? ⟨b,o+k*15+5,none⟩=some (.string p.vendor):=hcs.2 5 (show 5<15 by omega)
    have e6:wr.cell? ⟨b,o+k*15+6,none⟩=some (.slice a0 p.prov.length c0):=hcs.2 6 (show 6<15 by omega)
    have e7:wr.cell? ⟨b,o+k*15+7,none⟩=some (.slice a1 (Ab p.req).length c1):=hcs.2 7 (show 7<15 by omega)
    have e8:wr.cell? ⟨b,o+k*15+8,none⟩=some (.slice a2 (Ab p.con).length c2):=hcs.2 8 (show 8<15 by omega)
    have e9:wr.cell? ⟨b,o+k*15+9,none⟩=some (.slice a3 p.obs.length c3):=hcs.2 9 (show 9<15 by omega)
    have e10:wr.cell? ⟨b,o+k*15+10,none⟩=some (.slice a4 (Ab p.reco).length c4):=hcs.2 10 (show 10<15 by omega)
    have e11:wr.cell? ⟨b,o+k*15+11,none⟩=some (.slice a5 (Ab p.sup).length c5):=hcs.2 11 (show 11<15 by omega)
    have e12:wr.cell? ⟨b,o+k*15+12,none⟩=some (.slice a6 (Ab p.sug).length c6):=hcs.2 12 (show 12<15 by omega)
    have e13:wr.cell? ⟨b,o+k*15+13,none⟩=some (.slice a7 (Ab p.enh).length c7):=hcs.2 13 (show 13<15 by omega)
    have e14:wr.cell? ⟨b,o+k*15+14,none⟩=some (.slice a8 p.files.length c8):=hcs.2 14 (show 14<15 by omega)
    have eb:b<wr.heap.size:=hcs.1
    clear hcs hcs0
    go_upto_region 6 with fail
    obtain⟨bp,hbp⟩:∃bp,bp=wr.heap.size:=⟨_,rfl⟩
    obtain⟨w1,hw1⟩:∃w1,w1=wr.alloc (.cells #[.string p.name,.int .i64 p.ep,.string p.ver,.string p.rel,.int .u8 p.arch,.string p.vendor,.slice a0 p.prov.length c0,.slice a1 (Ab p.req).length c1,.slice a2 (Ab p.con).length c2,.slice a3 p.obs.length c3,.slice a4 (Ab p.reco).length c4,.slice a5 (Ab p.sup).length c5,.slice a6 (Ab p.sug).length c6,.slice a7 (Ab p.enh).length c7,.slice a8 p.files.length c8] 29):=⟨_,rfl⟩
    have HX1:=Hd (show Blk w1 bp 29 #[.string p.name,.int .i64 p.ep,.string p.ver,.string p.rel,.int .u8 p.arch,.string p.vendor,.slice a0 p.prov.length c0,.slice a1 (Ab p.req).length c1,.slice a2 (Ab p.con).length c2,.slice a3 p.obs.length c3,.slice a4 (Ab p.reco).length c4,.slice a5 (Ab p.sup).length c5,.slice a6 (Ab p.sug).length c6,.slice a7 (Ab p.enh).length c7,.slice a8 p.files.length c8]∧Below w.heap.size w w1 from⟨by rw[hbp,hw1];exact Blk.new _ _ _,by rw[hw1];exact Aa HQ.out (Ag _ _)⟩)
    have x0:w1.cell? ⟨bp,0,none⟩=some (.string p.name):=HX1.out.1.cell 0
    have x1:w1.cell? ⟨bp,1,none⟩=some (.int .i64 p.ep):=HX1.out.1.cell 1
    have x2:w1.cell? ⟨bp,2,none⟩=some (.string p.ver):=HX1.out.1.cell 2
    have x3:w1.cell? ⟨bp,3,none⟩=some (.string p.rel):=HX1.out.1.cell 3
    have x4:w1.cell? ⟨bp,4,none⟩=some (.int .u8 p.arch):=HX1.out.1.cell 4
    have x5:w1.cell? ⟨bp,5,none⟩=some (.string p.vendor):=HX1.out.1.cell 5
    have x6:w1.cell? ⟨bp,6,none⟩=some (.slice a0 p.prov.length c0):=HX1.out.1.cell 6
    have x7:w1.cell? ⟨bp,7,none⟩=some (.slice a1 (Ab p.req).length c1):=HX1.out.1.cell 7
    have x8:w1.cell? ⟨bp,8,none⟩=some (.slice a2 (Ab p.con).length c2):=HX1.out.1.cell 8
    have x9:w1.cell? ⟨bp,9,none⟩=some (.slice a3 p.obs.length c3):=HX1.out.1.cell 9
    have x10:w1.cell? ⟨bp,10,none⟩=some (.slice a4 (Ab p.reco).length c4):=HX1.out.1.cell 10
    have x11:w1.cell? ⟨bp,11,none⟩=some (.slice a5 (Ab p.sup).length c5):=HX1.out.1.cell 11
    have x12:w1.cell? ⟨bp,12,none⟩=some (.slice a6 (Ab p.sug).length c6):=HX1.out.1.cell 12
    have x13:w1.cell? ⟨bp,13,none⟩=some (.slice a7 (Ab p.enh).length c7):=HX1.out.1.cell 13
    have x14:w1.cell? ⟨bp,14,none⟩=some (.slice a8 p.files.length c8):=HX1.out.1.cell 14
    have xl:bp<w1.heap.size:=HX1.out.1.lt
    rw[←hw1,←hbp]
    clear hw1 hbp eb e0 e1 e2 e3 e4 e5 e6 e7 e8 e9 e10 e11 e12 e13 e14
    go_upto_region 7 with fail
    obtain⟨W2,hW2⟩:∃W2,W2=w1.alloc (.cells #[.slice a0 p.prov.length c0,.slice a3 p.obs.length c3] 25):=⟨_,rfl⟩
    have HX2:=Hd (show Blk W2 w1.heap.size 25 #[.slice a0 p.prov.length c0,.slice a3 p.obs.length c3]∧Blk W2 bp 29 #[.string p.name,.int .i64 p.ep,.string p.ver,.string p.rel,.int .u8 p.arch,.string p.vendor,.slice a0 p.prov.length c0,.slice a1 (Ab p.req).length c1,.slice a2 (Ab p.con).length c2,.slice a3 p.obs.length c3,.slice a4 (Ab p.reco).length c4,.slice a5 (Ab p.sup).length c5,.slice a6 (Ab p.sug).length c6,.slice a7 (Ab p.enh).length c7,.slice a8 p.files.length c8]∧Below w.heap.size w W2 from by rw[hW2];exact⟨Blk.new _ _ _,HX1.out.1.below (Ag _ _) HX1.out.1.lt,Aa HX1.out.2 (Ag _ _)⟩)
    have HS2:=Hd (show Below W2.heap.size W2 (w1.alloc (.cells #[.slice a0 p.prov.length c0,.slice a3 p.obs.length c3] 25))from hW2▸Below.refl _ _)
    clear hW2
    go_wp2_with fail
    go_loopw [5,68] (fun x i wr=>∃(j:Nat) (m:Int),j≤2∧i= .int .i64 j∧x= .int .i64 m∧Hid (Below W2.heap.size W2 wr)) (fun _ i _=>2-(intOf i).toNat)
    case atStart=>exact⟨0,_,by omega,rfl,rfl,HS2⟩
    case round=>
     obtain⟨j,m2,hj,rfl,rfl,HQ2⟩:=hrel
     by_cases hlj:j<2
     ·have hji:(j:Int)<2:=by omega
      obtain⟨D,da,dc,hcell,hD⟩:∃(D:List Ax) (da:Option Addr) (dc:Nat),wr.cell? ⟨w1.heap.size,j,none⟩=some (.slice da D.length dc)∧LIn AW Ai w0 D (.slice da D.length dc):=by
       have hb:=HX2.out.1.below HQ2.out HX2.out.1.lt
       have:j=0∨j=1:=by omega
       rcases this with rfl|rfl
       ·exact⟨_,_,_,hb.cell 0,HP.out.prov⟩
       ·exact⟨_,_,_,hb.cell 1,HP.out.obs⟩
      have hcl:w1.heap.size<wr.heap.size:=(HX2.out.1.below HQ2.out HX2.out.1.lt).lt
      have HD:=Hd hD
      have hDn:=hD.bound
      clear hD
      go_wp2_with fail
      go_loopw [5,10] (fun x i wq=>∃(q:Nat) (m:Int),q≤D.length∧i= .int .i64 q∧x= .int .i64 m∧Hid (Below W2.heap.size W2 wq)) (fun _ i _=>D.length-(intOf i).toNat)
      case atStart=>exact⟨0,m2,by omega,rfl,rfl,HQ2⟩
      case round=>
       obtain⟨q,m3,hq,rfl,rfl,HQ3⟩:=hrel
       by_cases hlq:q<D.length
       ·have hqi:(q:Int)<(D.length:Int):=by omega
        by_cases hm3:m3<n
        ·obtain⟨bd,od,rd,had,_,hcd,_⟩:=HD.out.at_ q hlq
         obtain⟨d,hd⟩:∃d,d=D[q]:=⟨_,rfl⟩
         rw[←hd]at hcd
         subst had
         dsimp only[AW]at hcd
         have hcd2:=hcd.below (HBW.out.trans ((Aa HX2.out.2.2 HQ3.out).mono HBW.out.size))
         have d0:wr.cell? ⟨bd,od+q*5,none⟩=some (.string d.name):=hcd2.2 0 (show 0<5 by omega)
         have d3:wr.cell? ⟨bd,od+q*5+3,none⟩=some (.string d.ver):=hcd2.2 3 (show 3<5 by omega)
         have d4:wr.cell? ⟨bd,od+q*5+4,none⟩=some (.string d.rel):=hcd2.2 4 (show 4<5 by omega)
         have dl:bd<wr.heap.size:=hcd2.1
         clear hcd hcd2 hd
         go_upto_region 13 with fail
         go_region
         go_wp2_with fail
         go_roundw
         case rel=>exact⟨q+1,_,by omega,by go_num,rfl,(by first|exact HQ3|exact HQ3.out.drew|exact AD HQ3.out _)⟩
         case measure=>simp[intOf];omega
        ·go_wp2_with fail
         go_roundw
         case rel=>exact⟨j+1,_,by omega,by go_num,rfl,HQ3⟩
         case measure=>simp[intOf];omega
       ·obtain rfl:q=D.length:=by omega
        go_wp2_with fail
        go_roundw
        case rel=>exact⟨j+1,_,by omega,by go_num,rfl,HQ3⟩
        case measure=>simp[intOf];omega
     ·obtain rfl:j=2:=by omega
      have hb:=HX2.out.2.1.below HQ2.out HX2.out.2.1.lt
      have f14:wr.cell? ⟨bp,14,none⟩=some (.slice a8 p.files.length c8):=hb.cell 14
      have fl:=hb.lt
      clear hb
      go_wp2_with fail
      go_loopw [5,11] (fun x i wq=>∃(q:Nat) (m:Int),q≤p.files.length∧i= .int .i64 q∧x= .int .i64 m∧Hid (Below W2.heap.size W2 wq)) (fun _ i _=>p.files.length-(intOf i).toNat)
      case atStart=>exact⟨0,m2,by omega,rfl,rfl,HQ2⟩
      case round=>
       obtain⟨q,m3,hq,rfl,rfl,HQ3⟩:=hrel
       have hb:=HX2.out.2.1.below HQ3.out HX2.out.2.1.lt
       have f7:wr.cell? ⟨bp,7,none⟩=some (.slice a1 (Ab p.req).length c1):=hb.cell 7
       have f8:wr.cell? ⟨bp,8,none⟩=some (.slice a2 (Ab p.con).length c2):=hb.cell 8
       have f10:wr.cell? ⟨bp,10,none⟩=some (.slice a4 (Ab p.reco).length c4):=hb.cell 10
       have f11:wr.cell? ⟨bp,11,none⟩=some (.slice a5 (Ab p.sup).length c5):=hb.cell 11
       have f12:wr.cell? ⟨bp,12,none⟩=some (.slice a6 (Ab p.sug).length c6):=hb.cell 12
       have f13:wr.cell? ⟨bp,13,none⟩=some (.slice a7 (Ab p.enh).length c7):=hb.cell 13
       have f14:wr.cell? ⟨bp,14,none⟩=some (.slice a8 p.files.length c8):=hb.cell 14
       have fl:=hb.lt
       clear hb
       by_cases hlq:q<p.files.length
       ·have hqi:(q:Int)<(p.files.length:Int):=by omega
        by_cases hm3:m3<n
        ·obtain⟨bd,od,rd,had,_,hcd,_⟩:=HP.out.files.at_ q hlq
         obtain⟨d,hd⟩:∃d,d=p.files[q]:=⟨_,rfl⟩
         rw[←hd]at hcd
         subst had
         dsimp only[A2]at hcd
         rw[Nat.mul_one]at hcd
         have hcd2:=hcd.below (HBW.out.trans ((Aa HX2.out.2.2 HQ3.out).mono HBW.out.size))
         have d0:wr.cell? ⟨bd,od+q,none⟩=some (.string d):=hcd2.2 0 (show 0<1 by omega)
         have dl:bd<wr.heap.size:=hcd2.1
         clear hcd hcd2 hd
         go_wp2_with fail
         go_roundw
         case rel=>exact⟨q+1,_,by omega,by go_num,rfl,HQ3⟩
         case measure=>simp[intOf];omega
        ·obtain⟨ba,hba⟩:∃ba,ba=wr.heap.size:=⟨_,rfl⟩
         obtain⟨W3,hW3⟩:∃W3,W3=wr.alloc (.cells #[.slice a1 (Ab p.req).length c1,.slice a2 (Ab p.con).length c2,.slice a4 (Ab p.reco).length c4,.slice a5 (Ab p.sup).length c5,.slice a6 (Ab p.sug).length c6,.slice a7 (Ab p.enh).length c7] 26):=⟨_,rfl⟩
         have HX3:=Hd (show Blk W3 ba 26 #[.slice a1 (Ab p.req).length c1,.slice a2 (Ab p.con).length c2,.slice a4 (Ab p.reco).length c4,.slice a5 (Ab p.sup).length c5,.slice a6 (Ab p.sug).length c6,.slice a7 (Ab p.enh).length c7]∧Below w.heap.size w W3 from by rw[hW3,hba];exact⟨Blk.new _ _ _,Aa (Aa HX2.out.2.2 HQ3.out) (Ag _ _)⟩)
         have HS3:=Hd (show Below W3.heap.size W3 (wr.alloc (.cells #[.slice a1 (Ab p.req).length c1,.slice a2 (Ab p.con).length c2,.slice a4 (Ab p.reco).length c4,.slice a5 (Ab p.sup).length c5,.slice a6 (Ab p.sug).length c6,.slice a7 (Ab p.enh).length c7] 26))from hW3▸Below.refl _ _)
         clear hW3
         go_wp2_with fail
         rw[←hba]
         have HBa:=Hd hba
         clear hba
         go_loopw [5,144] (fun x i wz=>∃(j:Nat) (m:Int),j≤6∧i= .int .i64 j∧x= .int .i64 m∧Hid (Below W3.heap.size W3 wz)) (fun _ i _=>6-(intOf i).toNat)
         case atStart=>exact⟨0,m3,by omega,rfl,rfl,HS3.out⟩
         case round=>
          obtain⟨j,m4,hj,rfl,rfl,HQ4⟩:=hrel
          by_cases hlj:j<6
          ·have hji:(j:Int)<6:=by omega
           obtain⟨D,da,dc,hcell,hD⟩:∃(D:Ac) (da:Option Addr) (dc:Nat),wr.cell? ⟨ba,j,none⟩=some (.slice da (Ab D).length dc)∧LIn Aj Ai w0 (Ab D) (.slice da (Ab D).length dc):=by
            have hb:=HX3.out.1.below HQ4.out HX3.out.1.lt
            have:j=0∨j=1∨j=2∨j=3∨j=4∨j=5:=by omega
            rcases this with rfl|rfl|rfl|rfl|rfl|rfl
            ·exact⟨_,_,_,hb.cell 0,HP.out.req⟩
            ·exact⟨_,_,_,hb.cell 1,HP.out.con⟩
            ·exact⟨_,_,_,hb.cell 2,HP.out.reco⟩
            ·exact⟨_,_,_,hb.cell 3,HP.out.sup⟩
            ·exact⟨_,_,_,hb.cell 4,HP.out.sug⟩
            ·exact⟨_,_,_,hb.cell 5,HP.out.enh⟩
           have hcl:ba<wr.heap.size:=(HX3.out.1.below HQ4.out HX3.out.1.lt).lt
           have HM4:=Hd (Fp D _ n w0 wr hD (HBW.out.trans ((Aa HX3.out.2 HQ4.out).mono HBW.out.size)))
           clear hD
           go_wp2_with (first
            |(go_at_call 82;(with_reducible refine HM4.out.mono ?_);rintro e w5 ⟨⟨q5,rfl⟩,hb5⟩;have HB5:=Hd (Aa HQ4.out hb5);clear hb5)
            |fail)
           go_roundw
           case rel=>first|exact⟨j+1,_,by omega,by go_num,rfl,HB5.out⟩|((repeat apply Exists.intro);exact⟨⟨j+1,_,by omega,by go_num,rfl,HB5.out⟩,rfl⟩)
           case measure=>simp[intOf];omega
          ·obtain rfl:j=6:=by omega
           have HBz:=Hd (Aa HX3.out.2 HQ4.out)
           go_wp2_with fail
           go_roundw
           case rel=>first|exact⟨k+1,_,by have:=HLt.out;omega,by go_num,rfl,HBz.out⟩|((repeat apply Exists.intro);exact⟨⟨k+1,_,by have:=HLt.out;omega,by go_num,rfl,HBz.out⟩,rfl⟩)
           case measure=>have:=HLt.out;simp[intOf];omega
       ·obtain rfl:q=p.files.length:=by omega
        obtain⟨ba,hba⟩:∃ba,ba=wr.heap.size:=⟨_,rfl⟩
        obtain⟨W3,hW3⟩:∃W3,W3=wr.alloc (.cells #[.slice a1 (Ab p.req).length c1,.slice a2 (Ab p.con).length c2,.slice a4 (Ab p.reco).length c4,.slice a5 (Ab p.sup).length c5,.slice a6 (Ab p.sug).length c6,.slice a7 (Ab p.enh).length c7] 26):=⟨_,rfl⟩
        have HX3:=Hd (show Blk W3 ba 26 #[.slice a1 (Ab p.req).length c1,.slice a2 (Ab p.con).length c2,.slice a4 (Ab p.reco).length c4,.slice a5 (Ab p.sup).length c5,.slice a6 (Ab p.sug).length c6,.slice a7 (Ab p.enh).length c7]∧Below w.heap.size w W3 from by rw[hW3,hba];exact⟨Blk.new _ _ _,Aa (Aa HX2.out.2.2 HQ3.out) (Ag _ _)⟩)
        have HS3:=Hd (show Below W3.heap.size W3 (wr.alloc (.cells #[.slice a1 (Ab p.req).length c1,.slice a2 (Ab p.con).length c2,.slice a4 (Ab p.reco).length c4,.slice a5 (Ab p.sup).length c5,.slice a6 (Ab p.sug).length c6,.slice a7 (Ab p.enh).length c7] 26))from hW3▸Below.refl _ _)
        clear hW3
        go_wp2_with fail
        rw[←hba]
        have HBa:=Hd hba
        clear hba
        go_loopw [5,144] (fun x i wz=>∃(j:Nat) (m:Int),j≤6∧i= .int .i64 j∧x= .int .i64 m∧Hid (Below W3.heap.size W3 wz)) (fun _ i _=>6-(intOf i).toNat)
        case atStart=>exact⟨0,m3,by omega,rfl,rfl,HS3.out⟩
        case round=>
         obtain⟨j,m4,hj,rfl,rfl,HQ4⟩:=hrel
         by_cases hlj:j<6
         ·have hji:(j:Int)<6:=by omega
          obtain⟨D,da,dc,hcell,hD⟩:∃(D:Ac) (da:Option Addr) (dc:Nat),wr.cell? ⟨ba,j,none⟩=some (.slice da (Ab D).length dc)∧LIn Aj Ai w0 (Ab D) (.slice da (Ab D).length dc):=by
           have hb:=HX3.out.1.below HQ4.out HX3.out.1.lt
           have:j=0∨j=1∨j=2∨j=3∨j=4∨j=5:=by omega
           rcases this with rfl|rfl|rfl|rfl|rfl|rfl
           ·exact⟨_,_,_,hb.cell 0,HP.out.req⟩
           ·exact⟨_,_,_,hb.cell 1,HP.out.con⟩
           ·exact⟨_,_,_,hb.cell 2,HP.out.reco⟩
           ·exact⟨_,_,_,hb.cell 3,HP.out.sup⟩
           ·exact⟨_,_,_,hb.cell 4,HP.out.sug⟩
           ·exact⟨_,_,_,hb.cell 5,HP.out.enh⟩
          have hcl:ba<wr.heap.size:=(HX3.out.1.below HQ4.out HX3.out.1.lt).lt
          have HM4:=Hd (Fp D _ n w0 wr hD (HBW.out.trans ((Aa HX3.out.2 HQ4.out).mono HBW.out.size)))
          clear hD
          go_wp2_with (first
           |(go_at_call 82;(with_reducible refine HM4.out.mono ?_);rintro e w5 ⟨⟨q5,rfl⟩,hb5⟩;have HB5:=Hd (Aa HQ4.out hb5);clear hb5)
           |fail)
          go_roundw
          case rel=>first|exact⟨j+1,_,by omega,by go_num,rfl,HB5.out⟩|((repeat apply Exists.intro);exact⟨⟨j+1,_,by omega,by go_num,rfl,HB5.out⟩,rfl⟩)
          case measure=>simp[intOf];omega
         ·obtain rfl:j=6:=by omega
          have HBz:=Hd (Aa HX3.out.2 HQ4.out)
          go_wp2_with fail
          go_roundw
          case rel=>first|exact⟨k+1,_,by have:=HLt.out;omega,by go_num,rfl,HBz.out⟩|((repeat apply Exists.intro);exact⟨⟨k+1,_,by have:=HLt.out;omega,by go_num,rfl,HBz.out⟩,rfl⟩)
          case measure=>have:=HLt.out;simp[intOf];omega
   ·go_wp2_with fail
    go_ret
    exact⟨⟨_,rfl⟩,HQ.out⟩
  ·obtain rfl:k=l.length:=by omega
   go_wp2_with fail
   go_ret
   exact⟨⟨_,rfl⟩,HQ.out⟩
end Go.Proofs.YtdpjjnbelgaagaaGreatDoor
