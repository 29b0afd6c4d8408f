/- The document's bytes: numbers, texts, EVRs, dependencies. Conditions: as each theorem names them. -/
import Derived.Test.YtdpjjnbelgaagaaGreatDoorG12
import Derived.Test.YtdpjjnbelgaagaaGreatDoorG18
import Derived.Test.YtdpjjnbelgaagaaGreatDoorG04
import Derived.Test.YtdpjjnbelgaagaaGreatDoorG19
import Derived.Test.YtdpjjnbelgaagaaGreatDoorG26
import Derived.Test.YtdpjjnbelgaagaaGreatDoorG07
import Derived.Test.YtdpjjnbelgaagaaGreatDoorG05
import Derived.Test.YtdpjjnbelgaagaaGreatDoorG10
import Derived.Test.YtdpjjnbelgaagaaGreatDoorRows
import Derived.ProofKit
import Derived.LaidMore
import Derived.OpenShut
namespace Go.Proofs.YtdpjjnbelgaagaaGreatDoor
set_option maxHeartbeats 32000000
open Go.ChangeShapes Go.WideShapes Go.ChangeAt Go.RowKit Go.Deep
set_option maxRecDepth 100000
def bs (l:List UInt8):ByteArray:=⟨l.toArray⟩
theorem Cn (a b:List UInt8):bs a++bs b=bs (a++b):=ByteArray.mk_append_mk _ _
theorem Dk (s:ByteArray):(AG s).length=(Ao s.size).length+s.size:=by
 show(Ao s.size++s.data.toList).length=_
 rw[List.length_append,Array.length_toList]
 rfl
def DA (w:World) (l:List UInt8) (e:Ending) (w':World):Prop:=e= .returned (.string (bs l))∧Below w.heap.size w w'
theorem BT (x:Int) (h0:0≤x) (h1:x≤9223372036854775807) (w:World):Calls Tryz.prog 47 #[.int .i64 x] w (DA w (Ao x.toNat)):=by
 obtain⟨n,rfl⟩:∃n:Nat,x=(n:Int):=⟨x.toNat,by omega⟩
 have HN:=Hd (Ga n n w (Nat.le_refl _) (by omega))
 rw[Int.toNat_natCast]
 clear h0 h1
 go_enter Tryz.func47,Tryz.ntmps47
 go_wp2_with (first
  |(go_at_call 88;(with_reducible refine HN.out.mono ?_);rintro e w1 ⟨rfl,hb⟩;have HB:=Hd hb;clear hb)
  |fail)
 go_ret
 exact⟨rfl,HB.out⟩
theorem Cs (s:ByteArray) (hs:s.size≤140737488351232) (w:World):Calls Tryz.prog 140 #[.string s] w (DA w (AG s)):=by
 have HN:=Hd (Jf s w hs)
 go_enter Tryz.func140,Tryz.ntmps140
 go_wp2_with (first
  |(go_at_call 171;(with_reducible refine HN.out.mono ?_);rintro e w1 ⟨rfl,hb⟩;have HB:=Hd hb;clear hb)
  |fail)
 go_ret
 exact⟨rfl,HB.out⟩
theorem Gb (ep:Int) (v r:ByteArray) (h0:0≤ep) (h1:ep≤9223372036854775807) (hl:(BB ep v r).length≤1073741824) (w:World):Calls Tryz.prog 141 #[.agg #[.int .i64 ep,.string v,.string r]] w (DA w (BB ep v r)):=by
 have hlen:(Ao ep.toNat).length+(AG v).length+(AG r).length≤1073741824:=by
  have:(BB ep v r).length=(Ao ep.toNat).length+((AG v).length+(AG r).length):=by simp[BB]
  omega
 have hv:v.size≤1073741824:=by have:=Dk v;omega
 have hr:r.size≤1073741824:=by have:=Dk r;omega
 obtain⟨S1,hS1⟩:∃S,S=bs (Ao ep.toNat):=⟨_,rfl⟩
 obtain⟨S2,hS2⟩:∃S,S=bs (AG v):=⟨_,rfl⟩
 obtain⟨S3,hS3⟩:∃S,S=bs (AG r):=⟨_,rfl⟩
 have z1:S1.size+S2.size+S3.size≤1073741824:=by rw[hS1,hS2,hS3];exact hlen
 have y1:¬9223372036854775807<S1.size+S2.size:=by omega
 have y2:¬9223372036854775807<S1.size+S2.size+S3.size:=by omega
 have z2:(S1++S2).size≤1073741824:=by rw[ByteArray.size_append];omega
 have z3:(S1++S2).size+S3.size≤1073741824:=by rw[ByteArray.size_append];omega
 have HF:=Hd (show(S1++S2)++S3=bs (BB ep v r) by rw[hS1,hS2,hS3,Cn,Cn,List.append_assoc];rfl)
 have HM1:=Hd (fun w' (_:Below w.heap.size w w')=>(show Calls Tryz.prog 47 #[.int .i64 ep] w' fun e w''=>e= .returned (.string S1)∧Below w'.heap.size w' w'' from hS1▸BT ep h0 h1 w'))
 have HM2:=Hd (fun w' (_:Below w.heap.size w w')=>(show Calls Tryz.prog 140 #[.string v] w' fun e w''=>e= .returned (.string S2)∧Below w'.heap.size w' w'' from hS2▸Cs v (by omega) w'))
 have HM3:=Hd (fun w' (_:Below w.heap.size w w')=>(show Calls Tryz.prog 140 #[.string r] w' fun e w''=>e= .returned (.string S3)∧Below w'.heap.size w' w'' from hS3▸Cs r (by omega) w'))
 obtain⟨g,hg⟩:∃g,g=w.heap.size:=⟨_,rfl⟩
 obtain⟨W,hW⟩:∃W,W=w.alloc (.cells #[.int .i64 ep,.string v,.string r] 24):=⟨_,rfl⟩
 have HX:=Hd (show Blk W g 24 #[.int .i64 ep,.string v,.string r]∧Below w.heap.size w W from by rw[hW,hg];exact⟨Blk.new _ _ _,Ag _ _⟩)
 have HS:=Hd (show∀w',Below W.heap.size W w'→w'.cell? ⟨g,0,none⟩=some (.int .i64 ep)∧w'.cell? ⟨g,1,none⟩=some (.string v)∧w'.cell? ⟨g,2,none⟩=some (.string r)from fun w' h=>⟨(HX.out.1.below h HX.out.1.lt).cell 0,(HX.out.1.below h HX.out.1.lt).cell 1,(HX.out.1.below h HX.out.1.lt).cell 2⟩)
 have HD:=Hd (show Below W.heap.size W W.drew from(Below.refl _ W).drew)
 obtain⟨x0,x1,x2⟩:=HS.out W (Below.refl _ _)
 have xl:=HX.out.1.lt
 clear h0 h1 hl hlen hv hr hS1 hS2 hS3
 go_enter Tryz.func141,Tryz.ntmps141
 go_upto_region 1 with fail
 rw[←hW,←hg]
 clear hW hg
 go_region_held3 (fun w'=>w'.cell? ⟨g,0,none⟩=some (.int .i64 ep)∧w'.cell? ⟨g,1,none⟩=some (.string v)∧w'.cell? ⟨g,2,none⟩=some (.string r)) (exact HS.out _ HD.out)
  ((first
    |(go_at_call 47;(with_reducible refine(HM1.out _ (Aa HX.out.2 HD.out)).mono ?_);rintro e w1 ⟨rfl,hb⟩;have HD:=Hd (Aa HD.out hb);clear hb)
    |(go_at_call 140;(with_reducible refine(HM2.out _ (Aa HX.out.2 HD.out)).mono ?_);rintro e w1 ⟨rfl,hb⟩;have HD:=Hd (Aa HD.out hb);clear hb)
    |(go_at_call 140;(with_reducible refine(HM3.out _ (Aa HX.out.2 HD.out)).mono ?_);rintro e w1 ⟨rfl,hb⟩;have HD:=Hd (Aa HD.out hb);clear hb)))
 all_goals
  go_wp2_with fail
  go_ret
  exact⟨congrArg (fun s=>Ending.returned (.string s)) HF.out,Aa HX.out.2 HD.out⟩
def Js (d:Ax):Prop:=0≤d.op∧d.op<256∧(d.op≠0→0≤d.ep∧d.ep≤9223372036854775807)
theorem Gc (d:Ax) (hok:Js d) (hl:(AU d).length≤1073741824) (w:World):Calls Tryz.prog 172 #[d.val] w (DA w (AU d)):=by
 obtain⟨o0,o1,o2⟩:=hok
 have hlen:(AG d.name).length+(Ao d.op.toNat).length+(if d.op=0 then []else BB d.ep d.ver d.rel).length≤1073741824:=by
  have:(AU d).length=(AG d.name).length+((Ao d.op.toNat).length+(if d.op=0 then []else BB d.ep d.ver d.rel).length):=by simp[AU]
  omega
 have hnm:d.name.size≤1073741824:=by have:=Dk d.name;omega
 obtain⟨S1,hS1⟩:∃S,S=bs (AG d.name):=⟨_,rfl⟩
 obtain⟨S2,hS2⟩:∃S,S=bs (Ao d.op.toNat):=⟨_,rfl⟩
 have z1:S1.size+S2.size≤1073741824:=by rw[hS1,hS2];show(AG d.name).length+(Ao d.op.toNat).length≤_;omega
 have y1:¬9223372036854775807<S1.size+S2.size:=by omega
 have HM1:=Hd (fun w'=>(show Calls Tryz.prog 140 #[.string d.name] w' fun e w''=>e= .returned (.string S1)∧Below w'.heap.size w' w'' from hS1▸Cs d.name (by omega) w'))
 have HM2:=Hd (fun w'=>(show Calls Tryz.prog 47 #[.int .i64 d.op] w' fun e w''=>e= .returned (.string S2)∧Below w'.heap.size w' w'' from hS2▸BT d.op o0 (by omega) w'))
 obtain⟨g,hg⟩:∃g,g=w.heap.size:=⟨_,rfl⟩
 obtain⟨W,hW⟩:∃W,W=w.alloc (.cells #[.string d.name,.int .u8 d.op,.int .i64 d.ep,.string d.ver,.string d.rel] 32):=⟨_,rfl⟩
 have HX:=Hd (show Blk W g 32 #[.string d.name,.int .u8 d.op,.int .i64 d.ep,.string d.ver,.string d.rel]∧Below w.heap.size w W from by rw[hW,hg];exact⟨Blk.new _ _ _,Ag _ _⟩)
 have HS:=Hd (show∀w',Below W.heap.size W w'→w'.cell? ⟨g,0,none⟩=some (.string d.name)∧w'.cell? ⟨g,1,none⟩=some (.int .u8 d.op)from fun w' h=>⟨(HX.out.1.below h HX.out.1.lt).cell 0,(HX.out.1.below h HX.out.1.lt).cell 1⟩)
 have HD:=Hd (show Below W.heap.size W W.drew from(Below.refl _ W).drew)
 obtain⟨x0,x1⟩:=HS.out W (Below.refl _ _)
 have xl:=HX.out.1.lt
 have hwo:IntKind.i64.wrap d.op=d.op:=by rw[IntKind.wrap_i64];omega
 by_cases hop:d.op=0
 ·have hopb:(d.op !=0)=false:=by simpa using hop
  have HF:=Hd (show S1++S2=bs (AU d) by rw[hS1,hS2,Cn];unfold AU;rw[if_pos hop,List.append_nil])
  clear hl hlen hnm hS1 hS2 o2 hop
  go_enter Tryz.func172,Tryz.ntmps172
  go_upto_region 1 with fail
  rw[←hW,←hg]
  clear hW hg
  go_region_held3 (fun w'=>w'.cell? ⟨g,0,none⟩=some (.string d.name)∧w'.cell? ⟨g,1,none⟩=some (.int .u8 d.op)) (exact HS.out _ HD.out)
   ((first
     |(go_at_call 140;(with_reducible refine(HM1.out _).mono ?_);rintro e w1 ⟨rfl,hb⟩;have HD:=Hd (Aa HD.out hb);clear hb)
     |(go_at_call 47;(with_reducible refine(HM2.out _).mono ?_);rintro e w1 ⟨rfl,hb⟩;have HD:=Hd (Aa HD.out hb);clear hb)))
  all_goals
   clear x0 x1
   obtain⟨x0,x1⟩:=HS.out _ HD.out
   have xl:=(HX.out.1.below HD.out HX.out.1.lt).lt
   go_wp2_with fail
   go_ret
   exact⟨congrArg (fun s=>Ending.returned (.string s)) HF.out,Aa HX.out.2 HD.out⟩
 ·have hopb:(d.op !=0)=true:=by simpa using hop
  obtain⟨S3,hS3⟩:∃S,S=bs (BB d.ep d.ver d.rel):=⟨_,rfl⟩
  rw[if_neg hop]at hlen
  have z3:(S1++S2).size+S3.size≤1073741824:=by rw[ByteArray.size_append,hS1,hS2,hS3];exact hlen
  have z2:(S1++S2).size≤1073741824:=by omega
  have y3:¬9223372036854775807<(S1++S2).size+S3.size:=by omega
  have y4:¬9223372036854775807<S1.size+S2.size+S3.size:=by rw[ByteArray.size_append]at y3;exact y3
  have HF:=Hd (show(S1++S2)++S3=bs (AU d) by rw[hS1,hS2,hS3,Cn,Cn];unfold AU;rw[if_neg hop,List.append_assoc])
  have HM3:=Hd (fun w'=>(show Calls Tryz.prog 141 #[.agg #[.int .i64 d.ep,.string d.ver,.string d.rel]] w' fun e w''=>e= .returned (.string S3)∧Below w'.heap.size w' w'' from hS3▸Gb d.ep d.ver d.rel (o2 hop).1 (o2 hop).2 (by omega) w'))
  clear hl hlen hnm hS1 hS2 hS3 o2 hop
  go_enter Tryz.func172,Tryz.ntmps172
  go_upto_region 1 with fail
  rw[←hW,←hg]
  clear hW hg
  go_region_held3 (fun w'=>w'.cell? ⟨g,0,none⟩=some (.string d.name)∧w'.cell? ⟨g,1,none⟩=some (.int .u8 d.op)) (exact HS.out _ HD.out)
   ((first
     |(go_at_call 140;(with_reducible refine(HM1.out _).mono ?_);rintro e w1 ⟨rfl,hb⟩;have HD:=Hd (Aa HD.out hb);clear hb)
     |(go_at_call 47;(with_reducible refine(HM2.out _).mono ?_);rintro e w1 ⟨rfl,hb⟩;have HD:=Hd (Aa HD.out hb);clear hb)))
  all_goals
   clear x0 x1
   obtain⟨x0,x1⟩:=HS.out _ HD.out
   have hbk:=HX.out.1.below HD.out HX.out.1.lt
   have x2:=hbk.cell 2
   have x3:=hbk.cell 3
   have x4:=hbk.cell 4
   simp only[List.getElem?_toArray,List.getElem?_cons_zero,List.getElem?_cons_succ]at x2 x3 x4
   have xl:=hbk.lt
   clear hbk
   go_wp2_with (first
    |(go_at_call 141;(with_reducible refine(HM3.out _).mono ?_);rintro e w2 ⟨rfl,hb⟩;have HD:=Hd (Aa HD.out hb);clear hb)
    |fail)
   go_ret
   exact⟨congrArg (fun s=>Ending.returned (.string s)) HF.out,Aa HX.out.2 HD.out⟩
theorem CY {α:Type} {f:α→List UInt8} {l:List α} {k:Nat} (hk:k<l.length):(l.take (k+1)).flatMap f=(l.take k).flatMap f++f l[k]:=by
 rw[List.take_succ_eq_append_getElem hk,List.flatMap_append]
 simp
theorem EL {α:Type} {f:α→List UInt8} {l:List α} {k:Nat} (hk:k<l.length):((l.take k).flatMap f).length+(f l[k]).length≤(l.flatMap f).length:=by
 have h:=congrArg (fun m=>(m.flatMap f).length) (List.take_append_drop (k+1) l)
 simp only[List.flatMap_append,List.length_append]at h
 rw[CY hk,List.length_append]at h
 omega
theorem Fv (l:List Ax) (v:Value) (w:World) (h:LIn AW Ai w l v) (hok:∀d∈l,Js d) (hl:(AQ AU l).length≤1073741824):Calls Tryz.prog 142 #[v] w (DA w (AQ AU l)):=by
 obtain⟨a,c,rfl⟩:=h.form
 have hn:=h.bound
 have HL:=Hd h
 have HO:=Hd hok
 have hlen:(Ao l.length).length+(l.flatMap AU).length≤1073741824:=by simpa [AQ]using hl
 have HLen:=Hd hlen
 obtain⟨S0,hS0⟩:∃S,S=bs (Ao l.length):=⟨_,rfl⟩
 have z0:S0.size≤1073741824:=by rw[hS0];show(Ao l.length).length≤_;omega
 have HM1:=Hd (show Calls Tryz.prog 47 #[.int .i64 l.length] w fun e w''=>e= .returned (.string S0)∧Below w.heap.size w w'' from hS0▸(by have h:=BT (l.length:Int) (by omega) (by omega) w;rw[Int.toNat_natCast]at h;exact h))
 have HS0:=Hd (show S0=bs (Ao l.length++(l.take 0).flatMap AU) by rw[hS0];simp)
 clear h hok hl hlen hS0
 go_enter Tryz.func142,Tryz.ntmps142
 go_wp2_with (first
  |(go_at_call 47;(with_reducible refine HM1.out.mono ?_);rintro e w1 ⟨rfl,hb⟩;have HB:=Hd hb;clear hb)
  |fail)
 go_loopw [3,4] (fun v i wr=>∃(k:Nat) (S:ByteArray),k≤l.length∧i= .int .i64 k∧v= .string S∧Hid (S=bs (Ao l.length++(l.take k).flatMap AU)∧Below w.heap.size w wr)) (fun _ i _=>l.length-(intOf i).toNat)
 case atStart=>exact⟨0,S0,by omega,rfl,rfl,⟨HS0.out,HB.out⟩⟩
 case round=>
  obtain⟨k,S,hk,rfl,rfl,HQ⟩:=hrel
  by_cases hlt:k<l.length
  ·have hki:(k:Int)<(l.length:Int):=by omega
   obtain⟨b1,o1,r1,ha1,_,hcs1,hh1⟩:=HL.out.at_ k hlt
   obtain⟨x,hx⟩:∃x,x=l[k]'hlt:=⟨_,rfl⟩
   rw[←hx]at hcs1 hh1
   subst ha1
   have hd1:AX wr b1 (o1+k*5) x.cs:=hcs1.below HQ.out.2
   have hfl:=EL (f:=AU) hlt
   rw[←hx]at hfl
   have hlen:=HLen.out
   obtain⟨SX,hSX⟩:∃S,S=bs (AU x):=⟨_,rfl⟩
   have z1:S.size+SX.size≤1073741824:=by rw[HQ.out.1,hSX];show(Ao l.length++(l.take k).flatMap AU).length+(AU x).length≤_;rw[List.length_append];omega
   have y1:¬9223372036854775807<S.size+SX.size:=by omega
   have HM:=Hd (show Calls Tryz.prog 172 #[x.val] wr fun e w'=>e= .returned (.string SX)∧Below wr.heap.size wr w' from hSX▸Gc x (HO.out x (hx▸List.getElem_mem _)) (by omega) wr)
   have HN:=Hd (show S++SX=bs (Ao l.length++(l.take (k+1)).flatMap AU) by rw[HQ.out.1,hSX,Cn,CY hlt,←hx,List.append_assoc])
   have x0:wr.cell? ⟨b1,o1+k*5,none⟩=some (.string x.name):=hd1.2 0 (show 0<5 by omega)
   have x1:wr.cell? ⟨b1,o1+k*5+1,none⟩=some (.int .u8 x.op):=hd1.2 1 (show 1<5 by omega)
   have x2:wr.cell? ⟨b1,o1+k*5+2,none⟩=some (.int .i64 x.ep):=hd1.2 2 (show 2<5 by omega)
   have x3:wr.cell? ⟨b1,o1+k*5+3,none⟩=some (.string x.ver):=hd1.2 3 (show 3<5 by omega)
   have x4:wr.cell? ⟨b1,o1+k*5+4,none⟩=some (.string x.rel):=hd1.2 4 (show 4<5 by omega)
   have xl:=hd1.1
   have HLt:=Hd hlt
   clear hcs1 hh1 hd1 hx hSX hfl hlen
   go_wp2_with (first
    |(go_at_call 172;(with_reducible refine HM.out.mono ?_);rintro e w2 ⟨rfl,hb⟩;have HB:=Hd (Aa HQ.out.2 hb);clear hb)
    |fail)
   go_roundw
   case rel=>exact⟨k+1,_,HLt.out,by go_num,rfl,⟨HN.out,HB.out⟩⟩
   case measure=>have:=HLt.out;simp[intOf];omega
  ·obtain rfl:k=l.length:=by omega
   have HN:=Hd (show S=bs (AQ AU l) by rw[HQ.out.1,List.take_length];rfl)
   go_wp2_with fail
   go_ret
   exact⟨congrArg (fun s=>Ending.returned (.string s)) HN.out,HQ.out.2⟩
def Ea:Ac→Prop
 | .nil=>True
 | .node k d n f=>if k=1 then Js d else∀j,j<n→Ea (f j)
theorem Pc (r:Ac):Ea r↔if r.kind=1 then Js r.dep else∀j,j<r.n→Ea (r.args j):=by
 cases r with
 |nil=>exact⟨fun _=>by rw[if_neg (show¬Ac.nil.kind=1 by decide)];exact fun j hj=>absurd hj (Nat.not_lt_zero j),fun _=>trivial⟩
 |node k d n f=>exact Iff.rfl
theorem Eo (r:Ac):At r=AQ Bk (Ab r):=by
 unfold At AQ Ab
 rw[List.length_map,List.length_range]
 congr 1
 generalize r.args=f
 generalize r.n=n
 induction n with
 |zero=>rfl
 |succ n ih=>
  rw[List.range_succ,List.map_append,List.flatMap_append,←ih]
  simp[B3]
theorem EB (W:World) (l:List Ac) (v:Value) (w:World) (h:LIn Aj Ai W l v) (hB:Below W.heap.size W w) (hl:(AQ Bk l).length≤1073741824)
 (ih:∀x∈l,∀(s:Value) (w:World),Au W x s→Below W.heap.size W w→(Bk x).length≤1073741824→Calls Tryz.prog 173 #[x.val s] w (DA w (Bk x))):Calls Tryz.prog 143 #[v] w (DA w (AQ Bk l)):=by
 obtain⟨a,c,rfl⟩:=h.form
 have hn:=h.bound
 have HL:=Hd h
 have HI:=Hd ih
 have hlen:(Ao l.length).length+(l.flatMap Bk).length≤1073741824:=by simpa [AQ]using hl
 have HLen:=Hd hlen
 obtain⟨S0,hS0⟩:∃S,S=bs (Ao l.length):=⟨_,rfl⟩
 have z0:S0.size≤1073741824:=by rw[hS0];show(Ao l.length).length≤_;omega
 have HM1:=Hd (show Calls Tryz.prog 47 #[.int .i64 l.length] w fun e w''=>e= .returned (.string S0)∧Below w.heap.size w w'' from hS0▸(by have h:=BT (l.length:Int) (by omega) (by omega) w;rw[Int.toNat_natCast]at h;exact h))
 have HS0:=Hd (show S0=bs (Ao l.length++(l.take 0).flatMap Bk) by rw[hS0];simp)
 have HBW:=Hd hB
 clear h hl hlen hS0 ih hB
 go_enter Tryz.func143,Tryz.ntmps143
 go_wp2_with (first
  |(go_at_call 47;(with_reducible refine HM1.out.mono ?_);rintro e w1 ⟨rfl,hb⟩;have HB:=Hd hb;clear hb)
  |fail)
 go_loopw [3,4] (fun v i wr=>∃(k:Nat) (S:ByteArray),k≤l.length∧i= .int .i64 k∧v= .string S∧Hid (S=bs (Ao l.length++(l.take k).flatMap Bk)∧Below w.heap.size w wr)) (fun _ i _=>l.length-(intOf i).toNat)
 case atStart=>exact⟨0,S0,by omega,rfl,rfl,⟨HS0.out,HB.out⟩⟩
 case round=>
  obtain⟨k,S,hk,rfl,rfl,HQ⟩:=hrel
  by_cases hlt:k<l.length
  ·have hki:(k:Int)<(l.length:Int):=by omega
   obtain⟨b1,o1,r1,ha1,_,hcs1,hh1⟩:=HL.out.at_ k hlt
   obtain⟨x,hx⟩:∃x,x=l[k]'hlt:=⟨_,rfl⟩
   rw[←hx]at hcs1 hh1
   subst ha1
   have hi1:Au W x r1:=AZ.is hh1
   obtain⟨xa,xc,rfl⟩:=hi1.form
   have hBr:=Aa HBW.out HQ.out.2
   have hd1:AX wr b1 (o1+k*7) (AM x (.slice xa x.n xc)):=hcs1.below hBr
   have hfl:=EL (f:=Bk) hlt
   rw[←hx]at hfl
   have hlen:=HLen.out
   obtain⟨SX,hSX⟩:∃S,S=bs (Bk x):=⟨_,rfl⟩
   have z1:S.size+SX.size≤1073741824:=by rw[HQ.out.1,hSX];show(Ao l.length++(l.take k).flatMap Bk).length+(Bk x).length≤_;rw[List.length_append];omega
   have y1:¬9223372036854775807<S.size+SX.size:=by omega
   have HM:=Hd (show Calls Tryz.prog 173 #[x.val (.slice xa x.n xc)] wr fun e w'=>e= .returned (.string SX)∧Below wr.heap.size wr w' from hSX▸HI.out x (hx▸List.getElem_mem _) _ wr hi1 hBr (by omega))
   have HN:=Hd (show S++SX=bs (Ao l.length++(l.take (k+1)).flatMap Bk) by rw[HQ.out.1,hSX,Cn,CY hlt,←hx,List.append_assoc])
   have x0:wr.cell? ⟨b1,o1+k*7,none⟩=some (.int .u8 x.kind):=hd1.2 0 (show 0<7 by omega)
   have x1:wr.cell? ⟨b1,o1+k*7+1,none⟩=some (.string x.dep.name):=hd1.2 1 (show 1<7 by omega)
   have x2:wr.cell? ⟨b1,o1+k*7+2,none⟩=some (.int .u8 x.dep.op):=hd1.2 2 (show 2<7 by omega)
   have x3:wr.cell? ⟨b1,o1+k*7+3,none⟩=some (.int .i64 x.dep.ep):=hd1.2 3 (show 3<7 by omega)
   have x4:wr.cell? ⟨b1,o1+k*7+4,none⟩=some (.string x.dep.ver):=hd1.2 4 (show 4<7 by omega)
   have x5:wr.cell? ⟨b1,o1+k*7+5,none⟩=some (.string x.dep.rel):=hd1.2 5 (show 5<7 by omega)
   have x6:wr.cell? ⟨b1,o1+k*7+6,none⟩=some (.slice xa x.n xc):=hd1.2 6 (show 6<7 by omega)
   have xl:=hd1.1
   have HLt:=Hd hlt
   clear hcs1 hh1 hd1 hx hSX hfl hlen hBr hi1
   go_wp2_with (first
    |(go_at_call 173;(with_reducible refine HM.out.mono ?_);rintro e w2 ⟨rfl,hb⟩;have HB:=Hd (Aa HQ.out.2 hb);clear hb)
    |fail)
   go_roundw
   case rel=>exact⟨k+1,_,HLt.out,by go_num,rfl,⟨HN.out,HB.out⟩⟩
   case measure=>have:=HLt.out;simp[intOf];omega
  ·obtain rfl:k=l.length:=by omega
   have HN:=Hd (show S=bs (AQ Bk l) by rw[HQ.out.1,List.take_length];rfl)
   go_wp2_with fail
   go_ret
   exact⟨congrArg (fun s=>Ending.returned (.string s)) HN.out,HQ.out.2⟩
theorem N1 (r:Ac):1≤(Bk r).length:=by
 rw[EP,List.length_append]
 have:=Jr r.kind.toNat
 omega
theorem Jz {α:Type} {f:α→List UInt8} (h:∀x,1≤(f x).length):∀l:List α,l.length≤(l.flatMap f).length
 | []=>Nat.le_refl _
 |x::l=>by
  have h1:=h x
  have h2:=Jz h l
  simp only[List.length_cons,List.flatMap_cons,List.length_append]
  omega
theorem Jg (W:World) (r:Ac):∀(s:Value) (w:World),Au W r s→Below W.heap.size W w→Ea r→(Bk r).length≤1073741824→Calls Tryz.prog 173 #[r.val s] w (DA w (Bk r)):=by
 have step:∀(r:Ac) (s:Value) (w:World),Au W r s→Below W.heap.size W w→Ea r→(Bk r).length≤1073741824→
  (∀j,j<r.n→∀(s:Value) (w:World),Au W (r.args j) s→Below W.heap.size W w→Ea (r.args j)→(Bk (r.args j)).length≤1073741824→Calls Tryz.prog 173 #[(r.args j).val s] w (DA w (Bk (r.args j))))→
  Calls Tryz.prog 173 #[r.val s] w (DA w (Bk r)):=by
  intro r s w hs hB hok hl ih
  obtain⟨a,c,rfl⟩:=hs.form
  have hk2:0≤r.kind∧r.kind<256:=hs.node_n.2
  obtain⟨k0,k1⟩:=hk2
  have hkl:(Ao r.kind.toNat).length+(if r.kind=1 then AU r.dep else At r).length≤1073741824:=by
   have:=hl
   rw[EP,List.length_append]at this
   exact this
  rw[Pc]at hok
  obtain⟨S1,hS1⟩:∃S,S=bs (Ao r.kind.toNat):=⟨_,rfl⟩
  have HM1:=Hd (fun w'=>(show Calls Tryz.prog 47 #[.int .i64 r.kind] w' fun e w''=>e= .returned (.string S1)∧Below w'.heap.size w' w'' from hS1▸BT r.kind k0 (by omega) w'))
  obtain⟨g,hg⟩:∃g,g=w.heap.size:=⟨_,rfl⟩
  obtain⟨V,hV⟩:∃V,V=w.alloc (.cells (AV r (.slice a r.n c)) 34):=⟨_,rfl⟩
  have HX:=Hd (show Blk V g 34 (AV r (.slice a r.n c))∧Below w.heap.size w V from by rw[hV,hg];exact⟨Blk.new _ _ _,Ag _ _⟩)
  have hbe:∀w',Below V.heap.size V w'→Blk w' g 34 (AV r (.slice a r.n c)):=fun w' h=>HX.out.1.below h HX.out.1.lt
  have x0:V.cell? ⟨g,0,none⟩=some (.int .u8 r.kind):=HX.out.1.cell 0
  have x1:V.cell? ⟨g,1,none⟩=some (.string r.dep.name):=HX.out.1.cell 1
  have x2:V.cell? ⟨g,2,none⟩=some (.int .u8 r.dep.op):=HX.out.1.cell 2
  have x3:V.cell? ⟨g,3,none⟩=some (.int .i64 r.dep.ep):=HX.out.1.cell 3
  have x4:V.cell? ⟨g,4,none⟩=some (.string r.dep.ver):=HX.out.1.cell 4
  have x5:V.cell? ⟨g,5,none⟩=some (.string r.dep.rel):=HX.out.1.cell 5
  have x6:V.cell? ⟨g,6,none⟩=some (.slice a r.n c):=HX.out.1.cell 6
  have xl:=HX.out.1.lt
  have hwk:IntKind.i64.wrap r.kind=r.kind:=by rw[IntKind.wrap_i64];omega
  have HD:=Hd (show Below V.heap.size V V.drew from(Below.refl _ V).drew)
  have HBW:=Hd hB
  unfold Ac.val Be
  by_cases hk:r.kind=1
  ·have hkb:(r.kind==1)=true:=by simpa using hk
   rw[if_pos hk]at hok hkl
   obtain⟨S2,hS2⟩:∃S,S=bs (AU r.dep):=⟨_,rfl⟩
   have z1:S1.size+S2.size≤1073741824:=by rw[hS1,hS2];exact hkl
   have y1:¬9223372036854775807<S1.size+S2.size:=by omega
   have HF:=Hd (show S1++S2=bs (Bk r) by rw[hS1,hS2,Cn,EP,if_pos hk])
   have HM2:=Hd (fun w'=>(show Calls Tryz.prog 172 #[.agg #[.string r.dep.name,.int .u8 r.dep.op,.int .i64 r.dep.ep,.string r.dep.ver,.string r.dep.rel]] w' fun e w''=>e= .returned (.string S2)∧Below w'.heap.size w' w'' from hS2▸Gc r.dep hok (by omega) w'))
   have HS:=Hd (show∀w',Below V.heap.size V w'→w'.cell? ⟨g,0,none⟩=some (.int .u8 r.kind)∧w'.cell? ⟨g,1,none⟩=some (.string r.dep.name)∧w'.cell? ⟨g,2,none⟩=some (.int .u8 r.dep.op)∧w'.cell? ⟨g,3,none⟩=some (.int .i64 r.dep.ep)∧w'.cell? ⟨g,4,none⟩=some (.string r.dep.ver)∧w'.cell? ⟨g,5,none⟩=some (.string r.dep.rel)from fun w' h=>⟨(hbe w' h).cell 0,(hbe w' h).cell 1,(hbe w' h).cell 2,(hbe w' h).cell 3,(hbe w' h).cell 4,(hbe w' h).cell 5⟩)
   clear hs hB hok hl ih hkl hS1 hS2 hbe hk
   go_enter Tryz.func173,Tryz.ntmps173
   go_upto_region 1 with fail
   rw[←hV,←hg]
   clear hV hg
   go_upto_region 2 with fail
   go_region_held3 (fun w'=>w'.cell? ⟨g,0,none⟩=some (.int .u8 r.kind)∧w'.cell? ⟨g,1,none⟩=some (.string r.dep.name)∧w'.cell? ⟨g,2,none⟩=some (.int .u8 r.dep.op)∧w'.cell? ⟨g,3,none⟩=some (.int .i64 r.dep.ep)∧w'.cell? ⟨g,4,none⟩=some (.string r.dep.ver)∧w'.cell? ⟨g,5,none⟩=some (.string r.dep.rel)) (exact HS.out _ HD.out)
    ((first
      |(go_at_call 47;(with_reducible refine(HM1.out _).mono ?_);rintro e w1 ⟨rfl,hb⟩;have HD:=Hd (Aa HD.out hb);clear hb)
      |(go_at_call 172;(with_reducible refine(HM2.out _).mono ?_);rintro e w1 ⟨rfl,hb⟩;have HD:=Hd (Aa HD.out hb);clear hb)))
   all_goals
    go_wp2_with fail
    go_ret
    exact⟨congrArg (fun s=>Ending.returned (.string s)) HF.out,Aa HX.out.2 HD.out⟩
  ·have hkb:(r.kind==1)=false:=by simpa using hk
   rw[if_neg hk]at hok hkl
   obtain⟨S2,hS2⟩:∃S,S=bs (At r):=⟨_,rfl⟩
   have z1:S1.size+S2.size≤1073741824:=by rw[hS1,hS2];exact hkl
   have y1:¬9223372036854775807<S1.size+S2.size:=by omega
   have HF:=Hd (show S1++S2=bs (Bk r) by rw[hS1,hS2,Cn,EP,if_neg hk])
   have hrl:(AQ Bk (Ab r)).length≤1073741824:=by rw[←Eo];omega
   have hn:r.n≤4611686018427387904:=by
    have h1:=Jz N1 (Ab r)
    have h2:(AQ Bk (Ab r)).length=(Ao (Ab r).length).length+((Ab r).flatMap Bk).length:=by simp[AQ]
    rw[BY]at h1
    omega
   have HM2:=Hd (fun w' (h:Below V.heap.size V w')=>(show Calls Tryz.prog 143 #[.slice a r.n c] w' fun e w''=>e= .returned (.string S2)∧Below w'.heap.size w' w'' from by
    have hB2:=Aa HBW.out (Aa HX.out.2 h)
    rw[hS2,Eo]
    refine EB W (Ab r) _ w' ((Au.p hs).list hn) hB2 hrl fun x hx s w2 h1 h2 h3=> ?_
    obtain⟨j,hj,rfl⟩:=List.mem_map.1 hx
    have hj':j<r.n:=by simpa using hj
    exact ih j hj' s w2 h1 h2 (hok j hj') h3))
   have HS:=Hd (show∀w',Below V.heap.size V w'→w'.cell? ⟨g,0,none⟩=some (.int .u8 r.kind)∧w'.cell? ⟨g,6,none⟩=some (.slice a r.n c)from fun w' h=>⟨(hbe w' h).cell 0,(hbe w' h).cell 6⟩)
   clear hs hB hok hl ih hkl hS1 hS2 hbe hk hrl
   go_enter Tryz.func173,Tryz.ntmps173
   go_upto_region 1 with fail
   rw[←hV,←hg]
   clear hV hg
   go_upto_region 3 with fail
   go_region_held3 (fun w'=>w'.cell? ⟨g,0,none⟩=some (.int .u8 r.kind)∧w'.cell? ⟨g,6,none⟩=some (.slice a r.n c)) (exact HS.out _ HD.out)
    ((first
      |(go_at_call 47;(with_reducible refine(HM1.out _).mono ?_);rintro e w1 ⟨rfl,hb⟩;have HD:=Hd (Aa HD.out hb);clear hb)
      |(go_at_call 143;(with_reducible refine(HM2.out _ HD.out).mono ?_);rintro e w1 ⟨rfl,hb⟩;have HD:=Hd (Aa HD.out hb);clear hb)))
   all_goals
    go_wp2_with fail
    go_ret
    exact⟨congrArg (fun s=>Ending.returned (.string s)) HF.out,Aa HX.out.2 HD.out⟩
 induction r with
 |nil=>exact fun s w h1 h2 h3 h4=>step .nil s w h1 h2 h3 h4 fun j hj=>absurd hj (Nat.not_lt_zero j)
 |node k d n f ih=>exact fun s w h1 h2 h3 h4=>step _ s w h1 h2 h3 h4 fun j _=>ih j
theorem BJ (W:World) (r:Ac) (v:Value) (w:World) (h:LIn Aj Ai W (Ab r) v) (hB:Below W.heap.size W w) (hok:∀x∈Ab r,Ea x) (hl:(At r).length≤1073741824):Calls Tryz.prog 143 #[v] w (DA w (At r)):=by
 rw[Eo]at hl ⊢
 exact EB W (Ab r) v w h hB hl fun x hx s w' h1 h2 h3=>Jg W x s w' h1 h2 (hok x hx) h3
section
variable {o:Oper} {a:Act} {w:World} {K:Act→World→Prop} {Q:Exit→Act→World→Prop}
theorem N6 (t:Nat) (x:Int) (h0:0≤x∧x<256) (ho:o.op= .convert 5 3 (.tmp t)) (hx:a.eval (.tmp t)= .int .u8 x) (h:K (a.put o.dst (.int .i64 x)) w):o.wp Tryz.prog a w K Q:=by
 have hw:IntKind.i64.wrap x=x:=by rw[IntKind.wrap_i64];omega
 unfold Oper.wp execOp
 simp only[ho,hx]
 go_simp
 exact h
theorem Ci (t u:Nat) (x y:List UInt8) (hl:x.length+y.length≤1073741824) (ho:o.op= .binOp .add 9 (.tmp t) (.tmp u) 9) (hx:a.eval (.tmp t)= .string (bs x)) (hu:a.eval (.tmp u)= .string (bs y)) (h:K (a.put o.dst (.string (bs (x++y)))) w):o.wp Tryz.prog a w K Q:=by
 rw[←Cn]at h
 have h1:(bs x).size+(bs y).size≤1073741824:=hl
 generalize bs x=X at*
 generalize bs y=Y at*
 have hn:¬9223372036854775807<X.size+Y.size:=by omega
 unfold Oper.wp execOp
 simp only[ho,hx,hu]
 go_simp
 exact h
theorem PE (t:Nat) (aa:Option Addr) (n c:Nat) (ho:o.op= .call {callee:= .builtin .len,args:= #[.tmp t],argTypes:= #[27]}) (hx:a.eval (.tmp t)= .slice aa n c) (h:K (a.put o.dst (.int .i64 n)) w):o.wp Tryz.prog a w K Q:=by
 unfold Oper.wp execOp
 simp only[ho,hx,resolve,Sem.run_bind,List.map_toArray,List.map_cons,List.map_nil]
 go_simp
 exact h
theorem KQ (t:Nat) (v:Value) (ho:o.op= .assign (.tmp t)) (hx:a.eval (.tmp t)=v) (h:K (a.put o.dst v) w):o.wp Tryz.prog a w K Q:=by
 subst hx
 unfold Oper.wp execOp
 simp only[ho]
 exact h
theorem FF (t:Nat) (v:Value) (l:List UInt8) (ho:o.op= .call {callee:= .value (.func 140),args:= #[.tmp t],argTypes:= #[9]}) (hx:a.eval (.tmp t)=v) (hc:Calls Tryz.prog 140 #[v] w (DA w l)) (h:∀w',Below w.heap.size w w'→K (a.put o.dst (.string (bs l))) w'):o.wp Tryz.prog a w K Q:=by
 unfold Oper.wp execOp
 simp only[ho,resolve,Sem.run_bind,List.map_toArray,List.map_cons,List.map_nil,hx]
 go_simp
 refine hc.mono ?_
 rintro e w' ⟨rfl,hk⟩
 exact h w' hk
theorem KP (t:Nat) (v:Value) (l:List UInt8) (ho:o.op= .call {callee:= .value (.func 141),args:= #[.tmp t],argTypes:= #[24]}) (hx:a.eval (.tmp t)=v) (hc:Calls Tryz.prog 141 #[v] w (DA w l)) (h:∀w',Below w.heap.size w w'→K (a.put o.dst (.string (bs l))) w'):o.wp Tryz.prog a w K Q:=by
 unfold Oper.wp execOp
 simp only[ho,resolve,Sem.run_bind,List.map_toArray,List.map_cons,List.map_nil,hx]
 go_simp
 refine hc.mono ?_
 rintro e w' ⟨rfl,hk⟩
 exact h w' hk
theorem GG (t:Nat) (v:Value) (l:List UInt8) (ho:o.op= .call {callee:= .value (.func 47),args:= #[.tmp t],argTypes:= #[3]}) (hx:a.eval (.tmp t)=v) (hc:Calls Tryz.prog 47 #[v] w (DA w l)) (h:∀w',Below w.heap.size w w'→K (a.put o.dst (.string (bs l))) w'):o.wp Tryz.prog a w K Q:=by
 unfold Oper.wp execOp
 simp only[ho,resolve,Sem.run_bind,List.map_toArray,List.map_cons,List.map_nil,hx]
 go_simp
 refine hc.mono ?_
 rintro e w' ⟨rfl,hk⟩
 exact h w' hk
theorem FG (t:Nat) (v:Value) (l:List UInt8) (ho:o.op= .call {callee:= .value (.func 142),args:= #[.tmp t],argTypes:= #[25]}) (hx:a.eval (.tmp t)=v) (hc:Calls Tryz.prog 142 #[v] w (DA w l)) (h:∀w',Below w.heap.size w w'→K (a.put o.dst (.string (bs l))) w'):o.wp Tryz.prog a w K Q:=by
 unfold Oper.wp execOp
 simp only[ho,resolve,Sem.run_bind,List.map_toArray,List.map_cons,List.map_nil,hx]
 go_simp
 refine hc.mono ?_
 rintro e w' ⟨rfl,hk⟩
 exact h w' hk
theorem BN (t:Nat) (v:Value) (l:List UInt8) (ho:o.op= .call {callee:= .value (.func 143),args:= #[.tmp t],argTypes:= #[26]}) (hx:a.eval (.tmp t)=v) (hc:Calls Tryz.prog 143 #[v] w (DA w l)) (h:∀w',Below w.heap.size w w'→K (a.put o.dst (.string (bs l))) w'):o.wp Tryz.prog a w K Q:=by
 unfold Oper.wp execOp
 simp only[ho,resolve,Sem.run_bind,List.map_toArray,List.map_cons,List.map_nil,hx]
 go_simp
 refine hc.mono ?_
 rintro e w' ⟨rfl,hk⟩
 exact h w' hk
end
theorem Ei (n:Nat) (h1:n≤9223372036854775807) (w:World):Calls Tryz.prog 47 #[.int .i64 n] w (DA w (Ao n)):=by
 have h:=BT (n:Int) (by omega) (by omega) w
 rwa [Int.toNat_natCast]at h
structure OkP (p:Aq):Prop where
 prov:∀d∈p.prov,Js d
 req:∀x∈Ab p.req,Ea x
 con:∀x∈Ab p.con,Ea x
 obs:∀d∈p.obs,Js d
 reco:∀x∈Ab p.reco,Ea x
 sup:∀x∈Ab p.sup,Ea x
 sug:∀x∈Ab p.sug,Ea x
 enh:∀x∈Ab p.enh,Ea x
def Ch (p:Aq):List UInt8:=((((((((((((AG p.name)++BB p.ep p.ver p.rel)++Ao p.arch.toNat)++AG p.vendor)++(AQ AU p.prov))++(At p.req))++(At p.con))++(AQ AU p.obs))++(At p.reco))++(At p.sup))++(At p.sug))++(At p.enh))++(Ao p.files.length)
def NB (g:Nat) (p:Aq) (r:AE) (_N:Nat) (_w:World):Nat→Value→Prop
 |0,v=>v= .pointer (some ⟨g,0,none⟩)
 |1,v=>v= .string p.name
 |2,v=>v= .string (bs (AG p.name))
 |3,v=>v= .pointer (some ⟨g,1,none⟩)
 |4,v=>v= .agg #[.int .i64 p.ep,.string p.ver,.string p.rel]
 |5,v=>v= .string (bs (BB p.ep p.ver p.rel))
 |6,v=>v= .string (bs ((AG p.name)++BB p.ep p.ver p.rel))
 |7,v=>v= .pointer (some ⟨g,4,none⟩)
 |8,v=>v= .int .u8 p.arch
 |9,v=>v= .int .i64 p.arch
 |10,v=>v= .string (bs (Ao p.arch.toNat))
 |11,v=>v= .string (bs (((AG p.name)++BB p.ep p.ver p.rel)++Ao p.arch.toNat))
 |12,v=>v= .pointer (some ⟨g,5,none⟩)
 |13,v=>v= .string p.vendor
 |14,v=>v= .string (bs (AG p.vendor))
 |15,v=>v= .string (bs ((((AG p.name)++BB p.ep p.ver p.rel)++Ao p.arch.toNat)++AG p.vendor))
 |16,v=>v= .pointer (some ⟨g,6,none⟩)
 |17,v=>v=r.prov
 |18,v=>v= .string (bs (AQ AU p.prov))
 |19,v=>v= .string (bs (((((AG p.name)++BB p.ep p.ver p.rel)++Ao p.arch.toNat)++AG p.vendor)++(AQ AU p.prov)))
 |20,v=>v= .pointer (some ⟨g,7,none⟩)
 |21,v=>v=r.req
 |22,v=>v= .string (bs (At p.req))
 |23,v=>v= .string (bs ((((((AG p.name)++BB p.ep p.ver p.rel)++Ao p.arch.toNat)++AG p.vendor)++(AQ AU p.prov))++(At p.req)))
 |24,v=>v= .pointer (some ⟨g,8,none⟩)
 |25,v=>v=r.con
 |26,v=>v= .string (bs (At p.con))
 |27,v=>v= .string (bs (((((((AG p.name)++BB p.ep p.ver p.rel)++Ao p.arch.toNat)++AG p.vendor)++(AQ AU p.prov))++(At p.req))++(At p.con)))
 |28,v=>v= .pointer (some ⟨g,9,none⟩)
 |29,v=>v=r.obs
 |30,v=>v= .string (bs (AQ AU p.obs))
 |31,v=>v= .string (bs ((((((((AG p.name)++BB p.ep p.ver p.rel)++Ao p.arch.toNat)++AG p.vendor)++(AQ AU p.prov))++(At p.req))++(At p.con))++(AQ AU p.obs)))
 |32,v=>v= .pointer (some ⟨g,10,none⟩)
 |33,v=>v=r.reco
 |34,v=>v= .string (bs (At p.reco))
 |35,v=>v= .string (bs (((((((((AG p.name)++BB p.ep p.ver p.rel)++Ao p.arch.toNat)++AG p.vendor)++(AQ AU p.prov))++(At p.req))++(At p.con))++(AQ AU p.obs))++(At p.reco)))
 |36,v=>v= .pointer (some ⟨g,11,none⟩)
 |37,v=>v=r.sup
 |38,v=>v= .string (bs (At p.sup))
 |39,v=>v= .string (bs ((((((((((AG p.name)++BB p.ep p.ver p.rel)++Ao p.arch.toNat)++AG p.vendor)++(AQ AU p.prov))++(At p.req))++(At p.con))++(AQ AU p.obs))++(At p.reco))++(At p.sup)))
 |40,v=>v= .pointer (some ⟨g,12,none⟩)
 |41,v=>v=r.sug
 |42,v=>v= .string (bs (At p.sug))
 |43,v=>v= .string (bs (((((((((((AG p.name)++BB p.ep p.ver p.rel)++Ao p.arch.toNat)++AG p.vendor)++(AQ AU p.prov))++(At p.req))++(At p.con))++(AQ AU p.obs))++(At p.reco))++(At p.sup))++(At p.sug)))
 |44,v=>v= .pointer (some ⟨g,13,none⟩)
 |45,v=>v=r.enh
 |46,v=>v= .string (bs (At p.enh))
 |47,v=>v= .string (bs ((((((((((((AG p.name)++BB p.ep p.ver p.rel)++Ao p.arch.toNat)++AG p.vendor)++(AQ AU p.prov))++(At p.req))++(At p.con))++(AQ AU p.obs))++(At p.reco))++(At p.sup))++(At p.sug))++(At p.enh)))
 |48,v=>v= .pointer (some ⟨g,14,none⟩)
 |49,v=>v=r.files
 |50,v=>v= .int .i64 p.files.length
 |51,v=>v= .string (bs (Ao p.files.length))
 |52,v=>v= .string (bs (((((((((((((AG p.name)++BB p.ep p.ver p.rel)++Ao p.arch.toNat)++AG p.vendor)++(AQ AU p.prov))++(At p.req))++(At p.con))++(AQ AU p.obs))++(At p.reco))++(At p.sup))++(At p.sug))++(At p.enh))++(Ao p.files.length)))
 |_,_=>True
theorem Mv {g:Nat} {p:Aq} {r:AE} {N:Nat} {w w':World} (_hb:Below w.heap.size w w'):∀{i:Nat} {v:Value},NB g p r N w i v→NB g p r N w' i v
 |0,_,h=>h
 |1,_,h=>h
 |2,_,h=>h
 |3,_,h=>h
 |4,_,h=>h
 |5,_,h=>h
 |6,_,h=>h
 |7,_,h=>h
 |8,_,h=>h
 |9,_,h=>h
 |10,_,h=>h
 |11,_,h=>h
 |12,_,h=>h
 |13,_,h=>h
 |14,_,h=>h
 |15,_,h=>h
 |16,_,h=>h
 |17,_,h=>h
 |18,_,h=>h
 |19,_,h=>h
 |20,_,h=>h
 |21,_,h=>h
 |22,_,h=>h
 |23,_,h=>h
 |24,_,h=>h
 |25,_,h=>h
 |26,_,h=>h
 |27,_,h=>h
 |28,_,h=>h
 |29,_,h=>h
 |30,_,h=>h
 |31,_,h=>h
 |32,_,h=>h
 |33,_,h=>h
 |34,_,h=>h
 |35,_,h=>h
 |36,_,h=>h
 |37,_,h=>h
 |38,_,h=>h
 |39,_,h=>h
 |40,_,h=>h
 |41,_,h=>h
 |42,_,h=>h
 |43,_,h=>h
 |44,_,h=>h
 |45,_,h=>h
 |46,_,h=>h
 |47,_,h=>h
 |48,_,h=>h
 |49,_,h=>h
 |50,_,h=>h
 |51,_,h=>h
 |52,_,h=>h
 |_+53,_,_=>trivial
abbrev P2:List Op:= [.fieldAddr 29 (.tmp 1) 0,.load 9 (.tmp 5),.call {callee:= .value (.func 140),args:= #[.tmp 6],argTypes:= #[9]},.fieldAddr 29 (.tmp 1) 1,.load 24 (.tmp 8),.call {callee:= .value (.func 141),args:= #[.tmp 9],argTypes:= #[24]},.binOp .add 9 (.tmp 7) (.tmp 10) 9,.fieldAddr 29 (.tmp 1) 2,.load 5 (.tmp 12),.convert 5 3 (.tmp 13),.call {callee:= .value (.func 47),args:= #[.tmp 14],argTypes:= #[3]},.binOp .add 9 (.tmp 11) (.tmp 15) 9,.fieldAddr 29 (.tmp 1) 3,.load 9 (.tmp 17),.call {callee:= .value (.func 140),args:= #[.tmp 18],argTypes:= #[9]},.binOp .add 9 (.tmp 16) (.tmp 19) 9,.fieldAddr 29 (.tmp 1) 4,.load 25 (.tmp 21),.call {callee:= .value (.func 142),args:= #[.tmp 22],argTypes:= #[25]},.binOp .add 9 (.tmp 20) (.tmp 23) 9,.fieldAddr 29 (.tmp 1) 5,.load 26 (.tmp 25),.call {callee:= .value (.func 143),args:= #[.tmp 26],argTypes:= #[26]},.binOp .add 9 (.tmp 24) (.tmp 27) 9,.fieldAddr 29 (.tmp 1) 6,.load 26 (.tmp 29),.call {callee:= .value (.func 143),args:= #[.tmp 30],argTypes:= #[26]},.binOp .add 9 (.tmp 28) (.tmp 31) 9,.fieldAddr 29 (.tmp 1) 7,.load 25 (.tmp 33),.call {callee:= .value (.func 142),args:= #[.tmp 34],argTypes:= #[25]},.binOp .add 9 (.tmp 32) (.tmp 35) 9,.fieldAddr 29 (.tmp 1) 8,.load 26 (.tmp 37),.call {callee:= .value (.func 143),args:= #[.tmp 38],argTypes:= #[26]},.binOp .add 9 (.tmp 36) (.tmp 39) 9,.fieldAddr 29 (.tmp 1) 9,.load 26 (.tmp 41),.call {callee:= .value (.func 143),args:= #[.tmp 42],argTypes:= #[26]},.binOp .add 9 (.tmp 40) (.tmp 43) 9,.fieldAddr 29 (.tmp 1) 10,.load 26 (.tmp 45),.call {callee:= .value (.func 143),args:= #[.tmp 46],argTypes:= #[26]},.binOp .add 9 (.tmp 44) (.tmp 47) 9,.fieldAddr 29 (.tmp 1) 11,.load 26 (.tmp 49),.call {callee:= .value (.func 143),args:= #[.tmp 50],argTypes:= #[26]},.binOp .add 9 (.tmp 48) (.tmp 51) 9,.fieldAddr 29 (.tmp 1) 12,.load 27 (.tmp 53),.call {callee:= .builtin .len,args:= #[.tmp 54],argTypes:= #[27]},.call {callee:= .value (.func 47),args:= #[.tmp 55],argTypes:= #[3]},.binOp .add 9 (.tmp 52) (.tmp 56) 9,.assign (.tmp 57)]
abbrev Ok:List (List Nat):= [[],[0],[1],[],[3],[4,2],[2,5],[],[7],[8],[9,5],[6,10],[],[12],[13,10],[11,14],[],[16],[17,14],[15,18],[],[20],[21,18],[19,22],[],[24],[25,22],[23,26],[],[28],[29,26],[27,30],[],[32],[33,30],[31,34],[],[36],[37,34],[35,38],[],[40],[41,38],[39,42],[],[44],[45,42],[43,46],[],[48],[49],[50,46],[47,51],[52,51]]
theorem QK {L:List Value} {n0 w0:World} {g:Nat} {p:Aq} {r:AE} {ops:Array Oper} {Q:Exit→Act→World→Prop} {id:Nat} (hL:L.length=74) (hsz:ops.size=54)
 (hL1:(L[1]?).getD undef= .pointer (some ⟨g,0,none⟩)) (hbd:Blk n0 g 29 (pC p r)) (hfm:r.forms) (hin:Ah Ai w0 p r) (hw0:Below w0.heap.size w0 n0) (hep:0≤p.ep∧p.ep≤9223372036854775807) (hst:p.name.size≤140737488351232∧p.vendor.size≤140737488351232) (hok:OkP p) (hlen:(Ch p).length≤1073741824)
 (hops:(ops.toList.map fun o=>(o.op,o.guard))=P2.map fun x=>(x,none)) (hdst:(ops.toList.map (·.dst))= [some 5,some 6,some 7,some 8,some 9,some 10,some 11,some 12,some 13,some 14,some 15,some 16,some 17,some 18,some 19,some 20,some 21,some 22,some 23,some 24,some 25,some 26,some 27,some 28,some 29,some 30,some 31,some 32,some 33,some 34,some 35,some 36,some 37,some 38,some 39,some 40,some 41,some 42,some 43,some 44,some 45,some 46,some 47,some 48,some 49,some 50,some 51,some 52,some 53,some 54,some 55,some 56,some 57,some 3])
 (hdeps:((ops.toList.zip Ok).all fun x=>x.2.all fun d=>x.1.after.any fun e=>e.on==d && Region.binds .any e)=true)
 (hlow:(ops.toList.zipIdx.all fun x=>x.1.after.all fun e=>decide (e.on<x.2))=true)
 (hK:∀mid W,mid.length=53→Below n0.heap.size n0 W→Q .normal ((frm (L.take 5) mid (L.drop 58)).put (some 3) (.string (bs (Ch p)))) W):
 (Code.region id ops true).wp Tryz.prog Q {tmps:=L.toArray,defers:= []} n0:=by
 obtain⟨N,hN⟩:∃N,N=n0.heap.size:=⟨_,rfl⟩
 unfold Ch at hlen hK
 have hF1:∀mid,(frm (L.take 5) mid (L.drop 58)).eval (.tmp 1)= .pointer (some ⟨g,0,none⟩):=fun mid=>(AI (by rw[List.length_take];omega)).trans (by rw[List.getElem?_take_of_lt (by omega)];exact hL1)
 have hop_at:∀(i:Nat) (o:Oper) (x:Op),ops[i]?=some o→P2[i]?=some x→o.op=x∧o.guard=none:=fun i o x ho hx=>by
  have h4:=congrArg (fun l=>l[i]?) hops
  rw[List.getElem?_map,List.getElem?_map,Array.getElem?_toList,ho,hx]at h4
  exact Prod.mk.inj (Option.some.inj h4)
 have hds_at:∀(i:Nat) (o:Oper) (x:Option Tmp),ops[i]?=some o→([some 5,some 6,some 7,some 8,some 9,some 10,some 11,some 12,some 13,some 14,some 15,some 16,some 17,some 18,some 19,some 20,some 21,some 22,some 23,some 24,some 25,some 26,some 27,some 28,some 29,some 30,some 31,some 32,some 33,some 34,some 35,some 36,some 37,some 38,some 39,some 40,some 41,some 42,some 43,some 44,some 45,some 46,some 47,some 48,some 49,some 50,some 51,some 52,some 53,some 54,some 55,some 56,some 57,some 3]:List (Option Tmp))[i]?=some x→o.dst=x:=fun i o x ho hx=>by
  have h4:=congrArg (fun l=>l[i]?) hdst
  rw[List.getElem?_map,Array.getElem?_toList,ho,hx]at h4
  exact Option.some.inj h4
 refine CZ (ok:=NB g p r N) (fun hb h=>Mv hb h) (n:=5) (K:=53) (M:=53) (N:=54) (by omega) (by omega) hsz (by omega) Ok (by rw[List.map_take,hdst];rfl) hdeps rfl (by kernel_rfl) hlow (fun i o mid w hi ho hm hb hdp=> ?_) (fun mid w hm hb hall=> ?_)
 ·have hbN:N≤w.heap.size:=hN▸hb.size
  have hcases:i=0∨i=1∨i=2∨i=3∨i=4∨i=5∨i=6∨i=7∨i=8∨i=9∨i=10∨i=11∨i=12∨i=13∨i=14∨i=15∨i=16∨i=17∨i=18∨i=19∨i=20∨i=21∨i=22∨i=23∨i=24∨i=25∨i=26∨i=27∨i=28∨i=29∨i=30∨i=31∨i=32∨i=33∨i=34∨i=35∨i=36∨i=37∨i=38∨i=39∨i=40∨i=41∨i=42∨i=43∨i=44∨i=45∨i=46∨i=47∨i=48∨i=49∨i=50∨i=51∨i=52:=by omega
  rcases hcases with rfl|rfl|rfl|rfl|rfl|rfl|rfl|rfl|rfl|rfl|rfl|rfl|rfl|rfl|rfl|rfl|rfl|rfl|rfl|rfl|rfl|rfl|rfl|rfl|rfl|rfl|rfl|rfl|rfl|rfl|rfl|rfl|rfl|rfl|rfl|rfl|rfl|rfl|rfl|rfl|rfl|rfl|rfl|rfl|rfl|rfl|rfl|rfl|rfl|rfl|rfl|rfl|rfl
  all_goals
   obtain⟨hop,hgd'⟩:=hop_at _ _ _ ho rfl
   have hd:=hdp _ rfl
   clear hdp hop_at hds_at ho
  ·exact⟨Ad hgd',fun Kc hKc=>Oh 1 g hop (hF1 mid) (hKc _ _ rfl (Below.refl _ _))⟩
  ·exact⟨Ad hgd',fun Kc hKc=>FU 5 g 0 _ hop (hd 0 (by simp)) ((hbd.bel' hb).cell 0) (hKc _ _ rfl (Below.refl _ _))⟩
  ·exact⟨Ad hgd',fun Kc hKc=>FF 6 _ _ hop (hd 1 (by simp)) (Cs _ hst.1 w) (fun w1 k=>hKc _ w1 rfl k)⟩
  ·exact⟨Ad hgd',fun Kc hKc=>Og 1 g hop (hF1 mid) (hKc _ _ rfl (Below.refl _ _))⟩
  ·exact⟨Ad hgd',fun Kc hKc=>LQ 8 g _ _ _ hop (hd 3 (by simp)) ((hbd.bel' hb).cell 1) ((hbd.bel' hb).cell 2) ((hbd.bel' hb).cell 3) (hKc _ _ rfl (Below.refl _ _))⟩
  ·exact⟨Ad hgd',fun Kc hKc=>KP 9 _ _ hop (hd 4 (by simp)) (Gb _ _ _ hep.1 hep.2 (by simp only[List.length_append]at hlen;omega) w) (fun w1 k=>hKc _ w1 rfl k)⟩
  ·exact⟨Ad hgd',fun Kc hKc=>Ci 7 10 _ _ (by simp only[List.length_append]at hlen ⊢;omega) hop (hd 2 (by simp)) (hd 5 (by simp)) (hKc _ _ rfl (Below.refl _ _))⟩
  ·exact⟨Ad hgd',fun Kc hKc=>Of 1 g hop (hF1 mid) (hKc _ _ rfl (Below.refl _ _))⟩
  ·exact⟨Ad hgd',fun Kc hKc=>N9 12 g 4 _ hop (hd 7 (by simp)) ((hbd.bel' hb).cell 4) (hKc _ _ rfl (Below.refl _ _))⟩
  ·exact⟨Ad hgd',fun Kc hKc=>N6 13 _ hin.ar hop (hd 8 (by simp)) (hKc _ _ rfl (Below.refl _ _))⟩
  ·exact⟨Ad hgd',fun Kc hKc=>GG 14 _ _ hop (hd 9 (by simp)) (BT _ hin.ar.1 (by have:=hin.ar.2;omega) w) (fun w1 k=>hKc _ w1 rfl k)⟩
  ·exact⟨Ad hgd',fun Kc hKc=>Ci 11 15 _ _ (by simp only[List.length_append]at hlen ⊢;omega) hop (hd 6 (by simp)) (hd 10 (by simp)) (hKc _ _ rfl (Below.refl _ _))⟩
  ·exact⟨Ad hgd',fun Kc hKc=>Oe 1 g hop (hF1 mid) (hKc _ _ rfl (Below.refl _ _))⟩
  ·exact⟨Ad hgd',fun Kc hKc=>FU 17 g 5 _ hop (hd 12 (by simp)) ((hbd.bel' hb).cell 5) (hKc _ _ rfl (Below.refl _ _))⟩
  ·exact⟨Ad hgd',fun Kc hKc=>FF 18 _ _ hop (hd 13 (by simp)) (Cs _ hst.2 w) (fun w1 k=>hKc _ w1 rfl k)⟩
  ·exact⟨Ad hgd',fun Kc hKc=>Ci 16 19 _ _ (by simp only[List.length_append]at hlen ⊢;omega) hop (hd 11 (by simp)) (hd 14 (by simp)) (hKc _ _ rfl (Below.refl _ _))⟩
  ·exact⟨Ad hgd',fun Kc hKc=>IP 1 g hop (hF1 mid) (hKc _ _ rfl (Below.refl _ _))⟩
  ·obtain⟨aa,nn,cc,hv⟩:=hfm.prov
   exact⟨Ad hgd',fun Kc hKc=>D6 21 g 6 _ aa nn cc hv hop (hd 16 (by simp)) ((hbd.bel' hb).cell 6) (hKc _ _ rfl (Below.refl _ _))⟩
  ·exact⟨Ad hgd',fun Kc hKc=>FG 22 _ _ hop (hd 17 (by simp)) (Fv p.prov r.prov w (hin.prov.below (Aa hw0 hb) fun _ _ _=>trivial) hok.prov (by simp only[List.length_append]at hlen;omega)) (fun w1 k=>hKc _ w1 rfl k)⟩
  ·exact⟨Ad hgd',fun Kc hKc=>Ci 20 23 _ _ (by simp only[List.length_append]at hlen ⊢;omega) hop (hd 15 (by simp)) (hd 18 (by simp)) (hKc _ _ rfl (Below.refl _ _))⟩
  ·exact⟨Ad hgd',fun Kc hKc=>Od 1 g hop (hF1 mid) (hKc _ _ rfl (Below.refl _ _))⟩
  ·obtain⟨aa,nn,cc,hv⟩:=hfm.req
   exact⟨Ad hgd',fun Kc hKc=>B0 25 g 7 _ aa nn cc hv hop (hd 20 (by simp)) ((hbd.bel' hb).cell 7) (hKc _ _ rfl (Below.refl _ _))⟩
  ·exact⟨Ad hgd',fun Kc hKc=>BN 26 _ _ hop (hd 21 (by simp)) (BJ w0 p.req r.req w hin.req (Aa hw0 hb) hok.req (by simp only[List.length_append]at hlen;omega)) (fun w1 k=>hKc _ w1 rfl k)⟩
  ·exact⟨Ad hgd',fun Kc hKc=>Ci 24 27 _ _ (by simp only[List.length_append]at hlen ⊢;omega) hop (hd 19 (by simp)) (hd 22 (by simp)) (hKc _ _ rfl (Below.refl _ _))⟩
  ·exact⟨Ad hgd',fun Kc hKc=>Oc 1 g hop (hF1 mid) (hKc _ _ rfl (Below.refl _ _))⟩
  ·obtain⟨aa,nn,cc,hv⟩:=hfm.con
   exact⟨Ad hgd',fun Kc hKc=>B0 29 g 8 _ aa nn cc hv hop (hd 24 (by simp)) ((hbd.bel' hb).cell 8) (hKc _ _ rfl (Below.refl _ _))⟩
  ·exact⟨Ad hgd',fun Kc hKc=>BN 30 _ _ hop (hd 25 (by simp)) (BJ w0 p.con r.con w hin.con (Aa hw0 hb) hok.con (by simp only[List.length_append]at hlen;omega)) (fun w1 k=>hKc _ w1 rfl k)⟩
  ·exact⟨Ad hgd',fun Kc hKc=>Ci 28 31 _ _ (by simp only[List.length_append]at hlen ⊢;omega) hop (hd 23 (by simp)) (hd 26 (by simp)) (hKc _ _ rfl (Below.refl _ _))⟩
  ·exact⟨Ad hgd',fun Kc hKc=>IN 1 g hop (hF1 mid) (hKc _ _ rfl (Below.refl _ _))⟩
  ·obtain⟨aa,nn,cc,hv⟩:=hfm.obs
   exact⟨Ad hgd',fun Kc hKc=>D6 33 g 9 _ aa nn cc hv hop (hd 28 (by simp)) ((hbd.bel' hb).cell 9) (hKc _ _ rfl (Below.refl _ _))⟩
  ·exact⟨Ad hgd',fun Kc hKc=>FG 34 _ _ hop (hd 29 (by simp)) (Fv p.obs r.obs w (hin.obs.below (Aa hw0 hb) fun _ _ _=>trivial) hok.obs (by simp only[List.length_append]at hlen;omega)) (fun w1 k=>hKc _ w1 rfl k)⟩
  ·exact⟨Ad hgd',fun Kc hKc=>Ci 32 35 _ _ (by simp only[List.length_append]at hlen ⊢;omega) hop (hd 27 (by simp)) (hd 30 (by simp)) (hKc _ _ rfl (Below.refl _ _))⟩
  ·exact⟨Ad hgd',fun Kc hKc=>Ob 1 g hop (hF1 mid) (hKc _ _ rfl (Below.refl _ _))⟩
  ·obtain⟨aa,nn,cc,hv⟩:=hfm.reco
   exact⟨Ad hgd',fun Kc hKc=>B0 37 g 10 _ aa nn cc hv hop (hd 32 (by simp)) ((hbd.bel' hb).cell 10) (hKc _ _ rfl (Below.refl _ _))⟩
  ·exact⟨Ad hgd',fun Kc hKc=>BN 38 _ _ hop (hd 33 (by simp)) (BJ w0 p.reco r.reco w hin.reco (Aa hw0 hb) hok.reco (by simp only[List.length_append]at hlen;omega)) (fun w1 k=>hKc _ w1 rfl k)⟩
  ·exact⟨Ad hgd',fun Kc hKc=>Ci 36 39 _ _ (by simp only[List.length_append]at hlen ⊢;omega) hop (hd 31 (by simp)) (hd 34 (by simp)) (hKc _ _ rfl (Below.refl _ _))⟩
  ·exact⟨Ad hgd',fun Kc hKc=>Oa 1 g hop (hF1 mid) (hKc _ _ rfl (Below.refl _ _))⟩
  ·obtain⟨aa,nn,cc,hv⟩:=hfm.sup
   exact⟨Ad hgd',fun Kc hKc=>B0 41 g 11 _ aa nn cc hv hop (hd 36 (by simp)) ((hbd.bel' hb).cell 11) (hKc _ _ rfl (Below.refl _ _))⟩
  ·exact⟨Ad hgd',fun Kc hKc=>BN 42 _ _ hop (hd 37 (by simp)) (BJ w0 p.sup r.sup w hin.sup (Aa hw0 hb) hok.sup (by simp only[List.length_append]at hlen;omega)) (fun w1 k=>hKc _ w1 rfl k)⟩
  ·exact⟨Ad hgd',fun Kc hKc=>Ci 40 43 _ _ (by simp only[List.length_append]at hlen ⊢;omega) hop (hd 35 (by simp)) (hd 38 (by simp)) (hKc _ _ rfl (Below.refl _ _))⟩
  ·exact⟨Ad hgd',fun Kc hKc=>LP 1 g hop (hF1 mid) (hKc _ _ rfl (Below.refl _ _))⟩
  ·obtain⟨aa,nn,cc,hv⟩:=hfm.sug
   exact⟨Ad hgd',fun Kc hKc=>B0 45 g 12 _ aa nn cc hv hop (hd 40 (by simp)) ((hbd.bel' hb).cell 12) (hKc _ _ rfl (Below.refl _ _))⟩
  ·exact⟨Ad hgd',fun Kc hKc=>BN 46 _ _ hop (hd 41 (by simp)) (BJ w0 p.sug r.sug w hin.sug (Aa hw0 hb) hok.sug (by simp only[List.length_append]at hlen;omega)) (fun w1 k=>hKc _ w1 rfl k)⟩
  ·exact⟨Ad hgd',fun Kc hKc=>Ci 44 47 _ _ (by simp only[List.length_append]at hlen ⊢;omega) hop (hd 39 (by simp)) (hd 42 (by simp)) (hKc _ _ rfl (Below.refl _ _))⟩
  ·exact⟨Ad hgd',fun Kc hKc=>LO 1 g hop (hF1 mid) (hKc _ _ rfl (Below.refl _ _))⟩
  ·obtain⟨aa,nn,cc,hv⟩:=hfm.enh
   exact⟨Ad hgd',fun Kc hKc=>B0 49 g 13 _ aa nn cc hv hop (hd 44 (by simp)) ((hbd.bel' hb).cell 13) (hKc _ _ rfl (Below.refl _ _))⟩
  ·exact⟨Ad hgd',fun Kc hKc=>BN 50 _ _ hop (hd 45 (by simp)) (BJ w0 p.enh r.enh w hin.enh (Aa hw0 hb) hok.enh (by simp only[List.length_append]at hlen;omega)) (fun w1 k=>hKc _ w1 rfl k)⟩
  ·exact⟨Ad hgd',fun Kc hKc=>Ci 48 51 _ _ (by simp only[List.length_append]at hlen ⊢;omega) hop (hd 43 (by simp)) (hd 46 (by simp)) (hKc _ _ rfl (Below.refl _ _))⟩
  ·exact⟨Ad hgd',fun Kc hKc=>FV 1 g hop (hF1 mid) (hKc _ _ rfl (Below.refl _ _))⟩
  ·obtain⟨aa,nn,cc,hv⟩:=hfm.files
   exact⟨Ad hgd',fun Kc hKc=>IM 53 g 14 _ aa nn cc hv hop (hd 48 (by simp)) ((hbd.bel' hb).cell 14) (hKc _ _ rfl (Below.refl _ _))⟩
  ·obtain⟨aa,cc,hv⟩:=hin.files.form
   have e1:=hd 49 (by simp)
   dsimp only[NB]at e1
   rw[hv]at e1
   exact⟨Ad hgd',fun Kc hKc=>PE 54 _ _ _ hop e1 (hKc _ _ rfl (Below.refl _ _))⟩
  ·exact⟨Ad hgd',fun Kc hKc=>GG 55 _ _ hop (hd 50 (by simp)) (Ei _ (by have:=hin.files.bound;omega) w) (fun w1 k=>hKc _ w1 rfl k)⟩
  ·exact⟨Ad hgd',fun Kc hKc=>Ci 52 56 _ _ (by simp only[List.length_append]at hlen ⊢;omega) hop (hd 47 (by simp)) (hd 51 (by simp)) (hKc _ _ rfl (Below.refl _ _))⟩
 ·have e0:ops.toList.drop 53= [ops[53]'(by omega)]:=by
   rw[List.drop_eq_getElem_cons (by rw[Array.length_toList];omega),List.drop_eq_nil_of_le (by rw[Array.length_toList];omega)]
   simp only[Array.getElem_toList]
  rw[e0]
  obtain⟨hp0,hg0⟩:=hop_at 53 _ _ (Array.getElem?_eq_getElem (by omega)) rfl
  have hd0:=hds_at 53 _ _ (Array.getElem?_eq_getElem (by omega)) rfl
  have hts:(frm (L.take 5) mid (L.drop 58)).tmps.size=74:=by
   show((L.take 5)++mid++L.drop 58).toArray.size=74
   simp[List.length_take,List.length_drop,hL,hm]
  have hF:(L.take 5).length=5:=by rw[List.length_take];omega
  have z:=hall 52 (by omega)
  dsimp only[NB]at z
  refine⟨hg0,KQ 57 _ hp0 z ?_⟩
  rw[hd0]
  show Q .normal _ _
  exact hK mid w hm hb
theorem Qk {l:List Value} (h:l.length=5):∃m0 m1 m2 m3 m4,l= [m0,m1,m2,m3,m4]:=by
 obtain⟨m0,l0,e0,h0⟩:=AP h
 obtain⟨m1,l1,e1,h1⟩:=AP h0
 obtain⟨m2,l2,e2,h2⟩:=AP h1
 obtain⟨m3,l3,e3,h3⟩:=AP h2
 obtain⟨m4,l4,e4,h4⟩:=AP h3
 have e:=List.eq_nil_of_length_eq_zero h4
 exact⟨m0,m1,m2,m3,m4,by rw[e0,e1,e2,e3,e4,e]⟩
theorem OT {l:List Value} (h:l.length=53):∃m0 m1 m2 m3 m4 m5 m6 m7 m8 m9 m10 m11 n0 n1 n2 n3 n4 n5 n6 n7 n8 n9 n10 n11 o0 o1 o2 o3 o4 o5 o6 o7 o8 o9 o10 o11 p0 p1 p2 p3 p4 p5 p6 p7 p8 p9 p10 p11 q0 q1 q2 q3 q4,l= [m0,m1,m2,m3,m4,m5,m6,m7,m8,m9,m10,m11,n0,n1,n2,n3,n4,n5,n6,n7,n8,n9,n10,n11,o0,o1,o2,o3,o4,o5,o6,o7,o8,o9,o10,o11,p0,p1,p2,p3,p4,p5,p6,p7,p8,p9,p10,p11,q0,q1,q2,q3,q4]:=by
 obtain⟨m0,m1,m2,m3,m4,m5,m6,m7,m8,m9,m10,m11,n0,n1,n2,n3,n4,n5,n6,n7,n8,n9,n10,n11,e1⟩:=Lm (l:=l.take 24) (by rw[List.length_take];omega)
 obtain⟨o0,o1,o2,o3,o4,o5,o6,o7,o8,o9,o10,o11,p0,p1,p2,p3,p4,p5,p6,p7,p8,p9,p10,p11,e2⟩:=Lm (l:=(l.drop 24).take 24) (by rw[List.length_take,List.length_drop];omega)
 obtain⟨q0,q1,q2,q3,q4,e3⟩:=Qk (l:=l.drop 48) (by rw[List.length_drop];omega)
 refine⟨m0,m1,m2,m3,m4,m5,m6,m7,m8,m9,m10,m11,n0,n1,n2,n3,n4,n5,n6,n7,n8,n9,n10,n11,o0,o1,o2,o3,o4,o5,o6,o7,o8,o9,o10,o11,p0,p1,p2,p3,p4,p5,p6,p7,p8,p9,p10,p11,q0,q1,q2,q3,q4,?_⟩
 rw[←List.take_append_drop 24 l,←List.take_append_drop 24 (l.drop 24),e1,e2,List.drop_drop,e3]
 rfl
theorem GD (p:Aq):Ch p++p.files.flatMap AG=A4 p:=by
 unfold Ch A4 AQ
 simp only[List.append_assoc]
theorem Gd (w0:World) (p:Aq) (r:AE) (w:World) (hin:Ah Ai w0 p r) (hw0:Below w0.heap.size w0 w) (hep:0≤p.ep) (hok:OkP p) (hl:(A4 p).length≤1073741824):Calls Tryz.prog 89 #[p.val r] w (DA w (A4 p)):=by
 have hfm:=hin.forms
 have hlen:(Ch p).length+(p.files.flatMap AG).length≤1073741824:=by rw[←List.length_append,GD];exact hl
 have hsz:p.name.size≤140737488351232∧p.vendor.size≤140737488351232:=by
  have h1:=Dk p.name
  have h2:=Dk p.vendor
  unfold A4 at hl
  simp only[List.length_append]at hl
  omega
 obtain⟨W,hW⟩:∃W,W=w.alloc (.cells (pC p r) 29):=⟨_,rfl⟩
 obtain⟨g,hg⟩:∃g,g=w.heap.size:=⟨_,rfl⟩
 have HX:=Hd (show Blk W g 29 (pC p r)∧Below w.heap.size w W from by rw[hW,hg];exact⟨Blk.new _ _ _,Ag _ _⟩)
 have HP:=Hd hin
 have HF:=Hd hfm
 have HB:=Hd hw0
 have HH:=Hd (And.intro hep (And.intro hsz (And.intro hok hlen)))
 obtain⟨⟨q1,q2,q3,e1⟩,⟨q4,q5,q6,e2⟩,⟨q7,q8,q9,e3⟩,⟨q10,q11,q12,e4⟩,⟨q13,q14,q15,e5⟩,⟨q16,q17,q18,e6⟩,⟨q19,q20,q21,e7⟩,⟨q22,q23,q24,e8⟩,_⟩:=hfm
 obtain⟨qa,qc,e9⟩:=hin.files.form
 have hfb:=hin.files.bound
 clear hin hw0 hep hok hl hsz hlen
 rcases r with ⟨r0,r1,r2,r3,r4,r5,r6,r7,r8⟩
 dsimp only at e1 e2 e3 e4 e5 e6 e7 e8 e9
 subst e1 e2 e3 e4 e5 e6 e7 e8 e9
 go_enter Tryz.func89,Tryz.ntmps89
 go_upto_region 1 with fail
 dsimp only[pC]at hW
 rw[←hW,←hg]
 clear hW hg
 refine QK (w0:=w0) (g:=g) (p:=p) (r:=_) (by kernel_rfl) (by kernel_rfl) rfl HX.out.1 HF.out HP.out (Aa HB.out HX.out.2) ⟨HH.out.1,HP.out.ep.2⟩ HH.out.2.1 HH.out.2.2.1 (by have:=HH.out.2.2.2;omega) (by kernel_rfl) (by kernel_rfl) (by kernel_rfl) (by kernel_rfl) ?_
 intro mid V hm hb
 obtain⟨m0,m1,m2,m3,m4,m5,m6,m7,m8,m9,m10,m11,n0,n1,n2,n3,n4,n5,n6,n7,n8,n9,n10,n11,o0,o1,o2,o3,o4,o5,o6,o7,o8,o9,o10,o11,p0,p1,p2,p3,p4,p5,p6,p7,p8,p9,p10,p11,q0,q1,q2,q3,q4,rfl⟩:=OT hm
 have HV:=Hd hb
 obtain⟨S0,hS0⟩:∃S,S=bs (Ch p):=⟨_,rfl⟩
 have z0:S0.size≤1073741824:=by rw[hS0];show(Ch p).length≤_;have:=HH.out.2.2.2;omega
 have HS0:=Hd (show S0=bs (Ch p++(p.files.take 0).flatMap AG) by rw[hS0];simp)
 rw[←hS0]
 clear hm hb hS0
 simp only[frm,List.take_succ_cons,List.take_zero,List.drop_succ_cons,List.drop_zero,List.cons_append,List.nil_append]
 rename_i hk
 refine hk _ _ ?_
 have HFb:=Hd (show∀w',Below V.heap.size V w'→w'.cell? ⟨g,14,none⟩=some (.slice qa p.files.length qc)∧g<w'.heap.size from fun w' h=>⟨(HX.out.1.below (Aa HV.out h) HX.out.1.lt).cell 14,(HX.out.1.below (Aa HV.out h) HX.out.1.lt).lt⟩)
 have HBV:=Hd (Aa HX.out.2 HV.out)
 go_wp2_with fail
 go_loopw [3,4] (fun v i wr=>∃(k:Nat) (S:ByteArray),k≤p.files.length∧i= .int .i64 k∧v= .string S∧Hid (S=bs (Ch p++(p.files.take k).flatMap AG)∧Below V.heap.size V wr)) (fun _ i _=>p.files.length-(intOf i).toNat)
 case atStart=>exact⟨0,S0,by omega,rfl,rfl,⟨HS0.out,Below.refl _ _⟩⟩
 case round=>
  obtain⟨k,S,hk,rfl,rfl,HQ⟩:=hrel
  obtain⟨y14,yl⟩:=HFb.out wr HQ.out.2
  by_cases hlt:k<p.files.length
  ·have hki:(k:Int)<(p.files.length:Int):=by omega
   obtain⟨b1,o1,r1,ha1,_,hcs1,hh1⟩:=HP.out.files.at_ k hlt
   obtain⟨x,hx⟩:∃x,x=p.files[k]'hlt:=⟨_,rfl⟩
   rw[←hx]at hcs1 hh1
   have hd1:=hcs1.below (Aa HB.out (Aa HBV.out HQ.out.2))
   dsimp only[A2]at hd1
   rw[Nat.mul_one]at hd1
   have hfl:=EL (f:=AG) hlt
   rw[←hx]at hfl
   have hlen:=HH.out.2.2.2
   obtain⟨SX,hSX⟩:∃S,S=bs (AG x):=⟨_,rfl⟩
   have z1:S.size+SX.size≤1073741824:=by rw[HQ.out.1,hSX];show(Ch p++(p.files.take k).flatMap AG).length+(AG x).length≤_;rw[List.length_append];omega
   have y1:¬9223372036854775807<S.size+SX.size:=by omega
   have hxs:x.size≤140737488351232:=by have:=Dk x;omega
   have HM:=Hd (show Calls Tryz.prog 140 #[.string x] wr fun e w'=>e= .returned (.string SX)∧Below wr.heap.size wr w' from hSX▸Cs x hxs wr)
   have HN:=Hd (show S++SX=bs (Ch p++(p.files.take (k+1)).flatMap AG) by rw[HQ.out.1,hSX,Cn,CY hlt,←hx,List.append_assoc])
   have x0:wr.cell? ⟨b1,o1+k,none⟩=some (.string x):=hd1.2 0 (show 0<1 by omega)
   have xl:=hd1.1
   have HLt:=Hd hlt
   subst ha1
   clear hcs1 hh1 hd1 hx hSX hfl hlen
   go_wp2_with (first
    |(go_at_call 140;(with_reducible refine HM.out.mono ?_);rintro e w2 ⟨rfl,hb⟩;have HB2:=Hd (Aa HQ.out.2 hb);clear hb)
    |fail)
   go_roundw
   case rel=>exact⟨k+1,_,HLt.out,by go_num,rfl,⟨HN.out,HB2.out⟩⟩
   case measure=>have:=HLt.out;simp[intOf];omega
  ·obtain rfl:k=p.files.length:=by omega
   have HN:=Hd (show S=bs (A4 p) by rw[HQ.out.1,List.take_length,GD])
   go_wp2_with fail
   go_ret
   exact⟨congrArg (fun s=>Ending.returned (.string s)) HN.out,Aa HBV.out HQ.out.2⟩
theorem Eg {d:Ax} (h:d.small):Js d:=⟨h.2.1.1,h.2.1.2,fun _=>⟨h.2.2.1.1,by have:=h.2.2.1.2;omega⟩⟩
theorem Fn:(r:Ac)→CE r→Ea r
 | .nil,_=>trivial
 | .node k d n f,h=>by
   have ih:=fun j (_:j<n)=>Fn (f j)
   replace h:if k=1 then d.small else n≤32∧∀j,j<n→CE (f j):=h
   show if k=1 then Js d else∀j,j<n→Ea (f j)
   by_cases hk:k=1
   ·rw[if_pos hk]at h ⊢
    exact Eg h
   ·rw[if_neg hk]at h ⊢
    exact fun j hj=>ih j hj (h.2 j hj)
theorem Pl {p:Aq} (h:A9 p=true):0≤p.ep∧OkP p:=by
 have m:=IE h
 have hr:∀{wh:Int} {r:Ac},Ay wh r=true→∀x∈Ab r,Ea x:=fun {wh r} hr x hx=>by
  unfold Ab at hx
  obtain⟨j,hj,rfl⟩:=List.mem_map.1 hx
  exact Fn _ (BA hr j (List.mem_range.1 hj))
 exact⟨(EN m.evr).1,⟨fun d hd=>Eg (Dn (m.prov.2 d hd)),hr m.req,hr m.con,fun d hd=>Eg (Dn (m.obs.2 d hd)),hr m.reco,hr m.sup,hr m.sug,hr m.enh⟩⟩
theorem DD (w0:World) (l:List Aq) (v:Value) (w:World) (h:LIn AN Ai w0 l v) (hB0:Below w0.heap.size w0 w) (hok:∀p∈l,A9 p=true) (hl:(AQ A4 l).length≤1073741824):Calls Tryz.prog 48 #[v] w (DA w (AQ A4 l)):=by
 obtain⟨a,c,rfl⟩:=h.form
 have hn:=h.bound
 have HL:=Hd h
 have HO:=Hd hok
 have HB0:=Hd hB0
 have hlen:(Ao l.length).length+(l.flatMap A4).length≤1073741824:=by simpa [AQ]using hl
 have HLen:=Hd hlen
 obtain⟨S0,hS0⟩:∃S,S=bs (Ao l.length):=⟨_,rfl⟩
 have z0:S0.size≤1073741824:=by rw[hS0];show(Ao l.length).length≤_;omega
 have HM1:=Hd (show Calls Tryz.prog 47 #[.int .i64 l.length] w fun e w''=>e= .returned (.string S0)∧Below w.heap.size w w'' from hS0▸Ei l.length (by omega) w)
 have HS0:=Hd (show S0=bs (Ao l.length++(l.take 0).flatMap A4) by rw[hS0];simp)
 clear h hok hl hlen hS0 hB0
 go_enter Tryz.func48,Tryz.ntmps48
 go_wp2_with (first
  |(go_at_call 47;(with_reducible refine HM1.out.mono ?_);rintro e w1 ⟨rfl,hb⟩;have HB:=Hd hb;clear hb)
  |fail)
 go_loopw [3,4] (fun v i wr=>∃(k:Nat) (S:ByteArray),k≤l.length∧i= .int .i64 k∧v= .string S∧Hid (S=bs (Ao l.length++(l.take k).flatMap A4)∧Below w.heap.size w wr)) (fun _ i _=>l.length-(intOf i).toNat)
 case atStart=>exact⟨0,S0,by omega,rfl,rfl,⟨HS0.out,HB.out⟩⟩
 case round=>
  obtain⟨k,S,hk,rfl,rfl,HQ⟩:=hrel
  by_cases hlt:k<l.length
  ·have hki:(k:Int)<(l.length:Int):=by omega
   have HBw:=Hd (Aa HB0.out HQ.out.2)
   obtain⟨b1,o1,rp,ha1,_,hcs1,hh⟩:=HL.out.at_ k hlt
   obtain⟨p,hp⟩:∃p,p=l[k]'hlt:=⟨_,rfl⟩
   rw[←hp]at hcs1 hh
   subst ha1
   have hc2:=hcs1.below HBw.out
   have hfl:=EL (f:=A4) hlt
   rw[←hp]at hfl
   have hlen:=HLen.out
   obtain⟨hep,hok⟩:=Pl (HO.out p (hp▸List.getElem_mem _))
   obtain⟨SX,hSX⟩:∃S,S=bs (A4 p):=⟨_,rfl⟩
   have z1:S.size+SX.size≤1073741824:=by rw[HQ.out.1,hSX];show(Ao l.length++(l.take k).flatMap A4).length+(A4 p).length≤_;rw[List.length_append];omega
   have y1:¬9223372036854775807<S.size+SX.size:=by omega
   obtain⟨⟨q1,q2,q3,e1⟩,⟨q4,q5,q6,e2⟩,⟨q7,q8,q9,e3⟩,⟨q10,q11,q12,e4⟩,⟨q13,q14,q15,e5⟩,⟨q16,q17,q18,e6⟩,⟨q19,q20,q21,e7⟩,⟨q22,q23,q24,e8⟩,⟨q25,q26,q27,e9⟩⟩:=(Ah.forms hh)
   rcases rp with ⟨r0,r1,r2,r3,r4,r5,r6,r7,r8⟩
   try dsimp only at e1 e2 e3 e4 e5 e6 e7 e8 e9
   subst e1 e2 e3 e4 e5 e6 e7 e8 e9
   have y0:wr.cell? ⟨b1,o1+k*15,none⟩=some (.string p.name):=hc2.2 0 (show 0<15 by omega)
   have y1:wr.cell? ⟨b1,o1+k*15+1,none⟩=some (.int .i64 p.ep):=hc2.2 1 (show 1<15 by omega)
   have y2:wr.cell? ⟨b1,o1+k*15+2,none⟩=some (.string p.ver):=hc2.2 2 (show 2<15 by omega)
   have y3:wr.cell? ⟨b1,o1+k*15+3,none⟩=some (.string p.rel):=hc2.2 3 (show 3<15 by omega)
   have y4:wr.cell? ⟨b1,o1+k*15+4,none⟩=some (.int .u8 p.arch):=hc2.2 4 (show 4<15 by omega)
   have y5:wr.cell? ⟨b1,o1+k*15+5,none⟩=some (.string p.vendor):=hc2.2 5 (show 5<15 by omega)
   have y6:wr.cell? ⟨b1,o1+k*15+6,none⟩=some (.slice q1 q2 q3):=hc2.2 6 (show 6<15 by omega)
   have y7:wr.cell? ⟨b1,o1+k*15+7,none⟩=some (.slice q4 q5 q6):=hc2.2 7 (show 7<15 by omega)
   have y8:wr.cell? ⟨b1,o1+k*15+8,none⟩=some (.slice q7 q8 q9):=hc2.2 8 (show 8<15 by omega)
   have y9:wr.cell? ⟨b1,o1+k*15+9,none⟩=some (.slice q10 q11 q12):=hc2.2 9 (show 9<15 by omega)
   have y10:wr.cell? ⟨b1,o1+k*15+10,none⟩=some (.slice q13 q14 q15):=hc2.2 10 (show 10<15 by omega)
   have y11:wr.cell? ⟨b1,o1+k*15+11,none⟩=some (.slice q16 q17 q18):=hc2.2 11 (show 11<15 by omega)
   have y12:wr.cell? ⟨b1,o1+k*15+12,none⟩=some (.slice q19 q20 q21):=hc2.2 12 (show 12<15 by omega)
   have y13:wr.cell? ⟨b1,o1+k*15+13,none⟩=some (.slice q22 q23 q24):=hc2.2 13 (show 13<15 by omega)
   have y14:wr.cell? ⟨b1,o1+k*15+14,none⟩=some (.slice q25 q26 q27):=hc2.2 14 (show 14<15 by omega)
   have yl:=hc2.1
   have HM:=Hd (show Calls Tryz.prog 89 #[.agg #[.string p.name,.int .i64 p.ep,.string p.ver,.string p.rel,.int .u8 p.arch,.string p.vendor,.slice q1 q2 q3,.slice q4 q5 q6,.slice q7 q8 q9,.slice q10 q11 q12,.slice q13 q14 q15,.slice q16 q17 q18,.slice q19 q20 q21,.slice q22 q23 q24,.slice q25 q26 q27]] wr fun e w'=>e= .returned (.string SX)∧Below wr.heap.size wr w' from hSX▸Gd w0 p ⟨.slice q1 q2 q3,.slice q4 q5 q6,.slice q7 q8 q9,.slice q10 q11 q12,.slice q13 q14 q15,.slice q16 q17 q18,.slice q19 q20 q21,.slice q22 q23 q24,.slice q25 q26 q27⟩ wr hh HBw.out hep hok (by omega))
   have HN:=Hd (show S++SX=bs (Ao l.length++(l.take (k+1)).flatMap A4) by rw[HQ.out.1,hSX,Cn,CY hlt,←hp,List.append_assoc])
   have HLt:=Hd hlt
   clear hcs1 hh hc2 hp hSX hfl hlen hep hok
   go_wp2_with (first
    |(go_at_call 89;(with_reducible refine HM.out.mono ?_);rintro e w2 ⟨rfl,hb⟩;have HB:=Hd (Aa HQ.out.2 hb);clear hb)
    |fail)
   go_roundw
   case rel=>exact⟨k+1,_,HLt.out,by go_num,rfl,⟨HN.out,HB.out⟩⟩
   case measure=>have:=HLt.out;simp[intOf];omega
  ·obtain rfl:k=l.length:=by omega
   have HN:=Hd (show S=bs (AQ A4 l) by rw[HQ.out.1,List.take_length];rfl)
   go_wp2_with fail
   go_ret
   exact⟨congrArg (fun s=>Ending.returned (.string s)) HN.out,HQ.out.2⟩
theorem GX (w0:World) (d:AA) (vr vi:Value) (hd:AR Ai w0 d vr vi) (w:World) (hB:Below w0.heap.size w0 w) (hf:d.few) (hl:A7 d=0→(Ep d).length≤1073741824):
 Calls Tryz.prog 21 #[.agg #[vr,vi]] w fun e w'=>e= .returned (.tuple #[.string ⟨(BR d).1.toArray⟩,.int .i64 (BR d).2])∧Below w.heap.size w w':=by
 obtain⟨ar,cr,rfl⟩:=hd.repos.form
 obtain⟨ai,ci,rfl⟩:=hd.inst.form
 have hdw:AR Ai w d (.slice ar d.repos.length cr) (.slice ai d.inst.length ci):=hd.keep hB.size fun b _ h=>⟨hB.block b h,trivial⟩
 have HD:=Hd hdw
 obtain⟨g,hg⟩:∃g,g=w.heap.size:=⟨_,rfl⟩
 obtain⟨W,hW⟩:∃W,W=w.alloc (.cells #[.slice ar d.repos.length cr,.slice ai d.inst.length ci] 55):=⟨_,rfl⟩
 have HX:=Hd (show Blk W g 55 #[.slice ar d.repos.length cr,.slice ai d.inst.length ci]∧Below w.heap.size w W from by rw[hW,hg];exact⟨Blk.new _ _ _,Ag _ _⟩)
 have HK:=Hd (ED d (.slice ar d.repos.length cr) (.slice ai d.inst.length ci) W (hdw.keep HX.out.2.size fun b _ h=>⟨HX.out.2.block b h,trivial⟩) hf)
 obtain⟨n1,hn1⟩:∃n,n=d.repos.length:=⟨_,rfl⟩
 obtain⟨n2,hn2⟩:∃n,n=d.inst.length:=⟨_,rfl⟩
 have hn1b:n1≤4611686018427387904:=hn1▸hd.repos.bound
 have HN:=Hd (And.intro hn1 hn2)
 rw[←hn1,←hn2]at hW HX HK ⊢
 have HC:=Hd (show∀w',Below W.heap.size W w'→w'.cell? ⟨g,0,none⟩=some (.slice ar n1 cr)∧w'.cell? ⟨g,1,none⟩=some (.slice ai n2 ci)∧g<w'.heap.size from fun w' h=>⟨(HX.out.1.below h HX.out.1.lt).cell 0,(HX.out.1.below h HX.out.1.lt).cell 1,(HX.out.1.below h HX.out.1.lt).lt⟩)
 obtain⟨x0,x1,xl⟩:=HC.out W (Below.refl _ _)
 obtain⟨ce,hce⟩:∃ce,ce=A7 d:=⟨_,rfl⟩
 rw[←hce]at HK
 have HCE:=Hd hce
 obtain⟨T,hT⟩:∃T,T=BR d:=⟨_,rfl⟩
 rw[←hT]
 have HT:=Hd hT
 have HLn:=Hd hl
 clear hd hf hn1 hn2 hT hB hdw hce hl
 by_cases h0:ce=0
 ·have HOk:=Hd (show A7 d=0 by rw[←HCE.out];exact h0)
  subst h0
  obtain⟨q1,q2,q3,q4,q5⟩:=GO.1 HOk.out
  have hlen:=HLn.out HOk.out
  have hlenA:(Ao n1).length+(d.repos.flatMap C9).length+(AQ A4 d.inst).length≤1073741824:=by
   have:(Ep d).length=(Ao n1).length+(d.repos.flatMap C9).length+(AQ A4 d.inst).length:=by
    unfold Ep
    rw[List.length_append,HN.out.1]
    congr 1
    unfold AQ
    rw[List.length_append]
   omega
  have HLa:=Hd hlenA
  have HQq:=Hd (And.intro q3 (And.intro q4 q5))
  obtain⟨S0,hS0⟩:∃S,S=bs (Ao n1):=⟨_,rfl⟩
  have z0:S0.size≤1073741824:=by rw[hS0];show(Ao n1).length≤_;omega
  have HM0:=Hd (fun w'=>(show Calls Tryz.prog 47 #[.int .i64 n1] w' fun e w''=>e= .returned (.string S0)∧Below w'.heap.size w' w'' from hS0▸Ei n1 (by omega) w'))
  have HS0:=Hd (show S0=bs (Ao n1++(d.repos.take 0).flatMap C9) by rw[hS0];simp)
  clear q1 q2 q3 q4 q5 hlen hlenA hS0
  go_enter Tryz.func21,Tryz.ntmps21
  go_upto_region 1 with fail
  rw[←hW,←hg]
  clear hW hg
  go_upto_region 2 with (first
   |(go_at_call 22;(with_reducible refine HK.out.mono ?_);rintro e w2 ⟨rfl,hb2⟩;have HB2:=Hd hb2;clear hb2)
   |fail)
  clear x0 x1 xl
  obtain⟨x0,x1,xl⟩:=HC.out w2 HB2.out
  go_wp2_with (first
   |(go_at_call 47;(with_reducible refine(HM0.out _).mono ?_);rintro e w3 ⟨rfl,hb3⟩;have HB3:=Hd (Aa HB2.out hb3);clear hb3)
   |fail)
  clear x0 x1 xl
  go_loopw [5,6] (fun v i wr=>∃(k:Nat) (S:ByteArray),k≤n1∧i= .int .i64 k∧v= .string S∧Hid (S=bs (Ao n1++(d.repos.take k).flatMap C9)∧Below W.heap.size W wr)) (fun _ i _=>n1-(intOf i).toNat)
  case atStart=>exact⟨0,S0,by omega,rfl,rfl,⟨HS0.out,HB3.out⟩⟩
  case round=>
   obtain⟨k,S,hk,rfl,rfl,HQ⟩:=hrel
   obtain⟨x0,x1,xl⟩:=HC.out wr HQ.out.2
   have HBw:=Hd (Aa HX.out.2 HQ.out.2)
   by_cases hlt:k<n1
   ·have hki:(k:Int)<(n1:Int):=by omega
    obtain⟨b,o,r,ha,_,hcs,hh⟩:=HD.out.repos.at_ k (by have:=HN.out;omega)
    obtain⟨x,hx⟩:∃x,x=d.repos[k]'(by have:=HN.out;omega):=⟨_,rfl⟩
    have hmem:x∈d.repos:=hx▸List.getElem_mem _
    have hfl:=EL (f:=C9) (l:=d.repos) (k:=k) (by have:=HN.out;omega)
    rw[←hx]at hcs hh hfl
    subst ha
    obtain⟨xa,xc,hr⟩:=hh.2.form
    have hr':(r:Value)= .slice xa x.pkgs.length xc:=hr
    subst hr'
    obtain⟨np,hnp⟩:∃np,np=x.pkgs.length:=⟨_,rfl⟩
    have hp3:=List.all_eq_true.1 HQq.out.1 x hmem
    rw[Bool.and_eq_true,decide_eq_true_eq,decide_eq_true_eq]at hp3
    have hp4:=List.all_eq_true.1 HQq.out.2.1 x hmem
    have hlx:(C9 x).length=(Ao x.prio.toNat).length+(AQ A4 x.pkgs).length:=by unfold C9;rw[List.length_append]
    have hla:=HLa.out
    obtain⟨SN,hSN⟩:∃S,S=bs (Ao x.prio.toNat):=⟨_,rfl⟩
    obtain⟨SP,hSP⟩:∃S,S=bs (AQ A4 x.pkgs):=⟨_,rfl⟩
    have z1:S.size+SN.size+SP.size≤1073741824:=by
     rw[HQ.out.1,hSN,hSP]
     show(Ao n1++(d.repos.take k).flatMap C9).length+(Ao x.prio.toNat).length+(AQ A4 x.pkgs).length≤_
     rw[List.length_append]
     omega
    have y1:¬9223372036854775807<S.size+SN.size:=by omega
    have y2:¬9223372036854775807<S.size+SN.size+SP.size:=by omega
    have z2:(S++SN).size≤1073741824:=by rw[ByteArray.size_append];omega
    have z3:(S++SN).size+SP.size≤1073741824:=by rw[ByteArray.size_append];omega
    have HM1:=Hd (fun w'=>(show Calls Tryz.prog 47 #[.int .i64 x.prio] w' fun e w''=>e= .returned (.string SN)∧Below w'.heap.size w' w'' from hSN▸BT x.prio hp3.1 (by omega) w'))
    have HM2:=Hd (fun w' (h:Below w.heap.size w w')=>(show Calls Tryz.prog 48 #[.slice xa np xc] w' fun e w''=>e= .returned (.string SP)∧Below w'.heap.size w' w'' from by rw[hSP,hnp];exact DD w x.pkgs _ w' hh.2 h (List.all_eq_true.1 hp4) (by omega)))
    have HF:=Hd (show(S++SN)++SP=bs (Ao n1++(d.repos.take (k+1)).flatMap C9) by
     rw[HQ.out.1,hSN,hSP,Cn,Cn,CY (l:=d.repos) (k:=k) (by have:=HN.out;omega),←hx,List.append_assoc,List.append_assoc]
     rfl)
    have HS:=Hd (show∀w',Below wr.heap.size wr w'→w'.cell? ⟨g,0,none⟩=some (.slice (some ⟨b,o,none⟩) n1 cr)∧w'.cell? ⟨b,o+k*2,none⟩=some (.int .i64 x.prio)∧w'.cell? ⟨b,o+k*2+1,none⟩=some (.slice xa np xc)from fun w' h=>by
     have h2:=hcs.below (Aa HBw.out h)
     exact⟨(HC.out w' (Aa HQ.out.2 h)).1,h2.2 0 (show 0<2 by omega),by rw[hnp];exact h2.2 1 (show 1<2 by omega)⟩)
    have HDr:=Hd (show Below wr.heap.size wr wr.drew from(Below.refl _ wr).drew)
    have hbl:b<wr.heap.size:=(hcs.below HBw.out).1
    have HLt:=Hd hlt
    clear hcs hh hr hx hmem hfl hnp hp3 hp4 hlx hla hSN hSP
    go_upto_region 8 with fail
    go_region_held3 (fun w'=>w'.cell? ⟨g,0,none⟩=some (.slice (some ⟨b,o,none⟩) n1 cr)∧w'.cell? ⟨b,o+k*2,none⟩=some (.int .i64 x.prio)∧w'.cell? ⟨b,o+k*2+1,none⟩=some (.slice xa np xc)) (exact HS.out _ HDr.out)
     ((first
       |(go_at_call 47;(with_reducible refine(HM1.out _).mono ?_);rintro e w4 ⟨rfl,hb⟩;have HDr:=Hd (Aa HDr.out hb);clear hb)
       |(go_at_call 48;(with_reducible refine(HM2.out _ (Aa HBw.out HDr.out)).mono ?_);rintro e w4 ⟨rfl,hb⟩;have HDr:=Hd (Aa HDr.out hb);clear hb)))
    all_goals
     go_wp2_with fail
     go_roundw
     case rel=>exact⟨k+1,_,HLt.out,by go_num,rfl,⟨HF.out,Aa HQ.out.2 HDr.out⟩⟩
     case measure=>have:=HLt.out;simp[intOf];omega
   ·obtain rfl:k=n1:=by omega
    have hS:S=bs (AQ C9 d.repos):=by
     rw[HQ.out.1,List.take_of_length_le (by have:=HN.out;omega)]
     unfold AQ
     rw[HN.out.1]
    obtain⟨SI,hSI⟩:∃S,S=bs (AQ A4 d.inst):=⟨_,rfl⟩
    have hA:S++SI=bs (Ep d):=by rw[hS,hSI,Cn];rfl
    have hla:=HLa.out
    have hAs:S.size+SI.size=(Ep d).length:=by rw[←ByteArray.size_append,hA];rfl
    have z1:S.size+SI.size≤1073741824:=by have:=HLn.out HOk.out;omega
    have y1:¬9223372036854775807<S.size+SI.size:=by omega
    have HM2:=Hd (show Calls Tryz.prog 48 #[.slice ai n2 ci] wr fun e w''=>e= .returned (.string SI)∧Below wr.heap.size wr w'' from by rw[hSI,HN.out.2];exact DD w d.inst _ wr HD.out.inst HBw.out (List.all_eq_true.1 HQq.out.2.2) (by omega))
    have HA:=Hd hA
    by_cases hl:(Ep d).length≤4194304
    ·have HTT:=Hd (HT.out.trans (GB HOk.out hl))
     have hi:¬(4194304:Int)<((S.size+SI.size:Nat):Int):=by omega
     have hi2:¬(4194304:Int)<(S.size:Int)+(SI.size:Int):=by omega
     have hi3:¬4194304<S.size+SI.size:=by omega
     clear hS hSI hA hla hAs hl
     go_wp2_with (first
      |(go_at_call 48;(with_reducible refine HM2.out.mono ?_);rintro e w4 ⟨rfl,hb⟩;have HB4:=Hd (Aa HBw.out hb);clear hb)
      |fail)
     go_ret2
     exact⟨by rw[HTT.out];exact congrArg (fun s=>Ending.returned (.tuple #[.string s,.int .i64 0])) HA.out,HB4.out⟩
    ·have HTT:=Hd (HT.out.trans (EO HOk.out (by omega)))
     have hi:(4194304:Int)<((S.size+SI.size:Nat):Int):=by omega
     have hi2:(4194304:Int)<(S.size:Int)+(SI.size:Int):=by omega
     have hi3:4194304<S.size+SI.size:=by omega
     clear hS hSI hA hla hAs hl
     go_wp2_with (first
      |(go_at_call 48;(with_reducible refine HM2.out.mono ?_);rintro e w4 ⟨rfl,hb⟩;have HB4:=Hd (Aa HBw.out hb);clear hb)
      |fail)
     go_ret2
     exact⟨by rw[HTT.out];rfl,HB4.out⟩
 ·have hd0:(ce==0)=false:=by simpa using h0
  have hd1:(ce !=0)=true:=by simp[bne,hd0]
  have HTT:=Hd (HT.out.trans (GC HCE.out.symm h0))
  clear h0
  go_enter Tryz.func21,Tryz.ntmps21
  go_upto_region 1 with fail
  rw[←hW,←hg]
  clear hW hg
  go_wp2_with (first
   |(go_at_call 22;(with_reducible refine HK.out.mono ?_);rintro e w2 ⟨rfl,hb2⟩;have HB2:=Hd (Aa HX.out.2 hb2);clear hb2)
   |fail)
  go_ret2
  exact⟨by rw[HTT.out];rfl,HB2.out⟩
def QC (s:ByteArray):AA×Int×Int:=match IS s with
 | .ok d=>(d,0,0)
 | .error x=>(⟨[],[]⟩,(x.1:Int),x.2)
def QH (_n0:Nat) (d:AA) (p x:Int) (ret:Ending) (w':World):Prop:=∃vr vi,ret= .returned (.tuple #[.agg #[vr,vi],.int .i64 p,.int .i64 x])∧AR Ai w' d vr vi
theorem LS {s:ByteArray} {n0:Nat} {ret:Ending} {w':World} {d:AA} {p x:Int} (h:Cz s n0 ret w') (he:(d,p,x)=QC s):QH n0 d p x ret w':=by
 unfold Cz at h
 unfold QC at he
 cases hd:IS s with
 |ok y=>
  rw[hd]at h he
  obtain⟨vr,vi,h1,h2⟩:=h
  injection he with e1 e2
  injection e2 with e2 e3
  subst e1 e2 e3
  exact⟨vr,vi,h1,h2.keep (Nat.le_refl _) fun b _ _=>⟨rfl,trivial⟩⟩
 |error y=>
  rw[hd]at h he
  injection he with e1 e2
  injection e2 with e2 e3
  subst e1 e2 e3
  exact⟨_,_,h,LIn.nil _ _ _,LIn.nil _ _ _⟩
theorem OU {l:List Value} (h:l.length=37):∃m0 m1 m2 m3 m4 m5 m6 m7 m8 m9 m10 m11 m12 m13 m14 m15 m16 m17 m18 m19 m20 m21 m22 m23 m24 m25 m26 m27 m28 m29 m30 m31 m32 m33 m34 m35 m36,l= [m0,m1,m2,m3,m4,m5,m6,m7,m8,m9,m10,m11,m12,m13,m14,m15,m16,m17,m18,m19,m20,m21,m22,m23,m24,m25,m26,m27,m28,m29,m30,m31,m32,m33,m34,m35,m36]:=by
 obtain⟨m0,m1,m2,m3,m4,m5,m6,m7,m8,m9,m10,m11,e1⟩:=Dr (l:=l.take 12) (by rw[List.length_take];omega)
 obtain⟨m12,m13,m14,m15,m16,m17,m18,m19,m20,m21,m22,m23,e2⟩:=Dr (l:=(l.drop 12).take 12) (by rw[List.length_take,List.length_drop];omega)
 obtain⟨m24,m25,m26,m27,m28,m29,m30,m31,m32,m33,m34,m35,e3⟩:=Dr (l:=(l.drop 24).take 12) (by rw[List.length_take,List.length_drop];omega)
 obtain⟨m36,l4,e4,h4⟩:=AP (l:=l.drop 36) (n:=0) (by rw[List.length_drop];omega)
 obtain rfl:l4= []:=List.eq_nil_of_length_eq_zero h4
 have k1:l.drop 12=(l.drop 12).take 12++l.drop 24:=by rw[show l.drop 24=(l.drop 12).drop 12 from by rw[List.drop_drop]];exact(List.take_append_drop 12 _).symm
 have k2:l.drop 24=(l.drop 24).take 12++l.drop 36:=by rw[show l.drop 36=(l.drop 24).drop 12 from by rw[List.drop_drop]];exact(List.take_append_drop 12 _).symm
 exact⟨m0,m1,m2,m3,m4,m5,m6,m7,m8,m9,m10,m11,m12,m13,m14,m15,m16,m17,m18,m19,m20,m21,m22,m23,m24,m25,m26,m27,m28,m29,m30,m31,m32,m33,m34,m35,m36,by rw[←List.take_append_drop 12 l,k1,k2,e1,e2,e3,e4];rfl⟩
theorem OP (w2 w3:World) (d:AA) (pa:Option Addr) (pc:Nat) (qa:Option Addr) (qc:Nat) (pa2:Option Addr) (pc2:Nat) (qa2:Option Addr) (qc2:Nat) (h1:AR Ai w2 d (.slice pa d.repos.length pc) (.slice qa d.inst.length qc)) (h2:AR Ai w3 d (.slice pa2 d.repos.length pc2) (.slice qa2 d.inst.length qc2))
 (hb:Below (w2.alloc (.cells #[.slice pa d.repos.length pc,.slice qa d.inst.length qc] 41)).heap.size (w2.alloc (.cells #[.slice pa d.repos.length pc,.slice qa d.inst.length qc] 41)) w3):
 Blk (w3.alloc (.cells #[.slice pa2 d.repos.length pc2,.slice qa2 d.inst.length qc2] 55)) w2.heap.size 41 #[.slice pa d.repos.length pc,.slice qa d.inst.length qc]∧Blk (w3.alloc (.cells #[.slice pa2 d.repos.length pc2,.slice qa2 d.inst.length qc2] 55)) w3.heap.size 55 #[.slice pa2 d.repos.length pc2,.slice qa2 d.inst.length qc2]∧
 Calls Tryz.prog 24 #[.agg #[.slice pa d.repos.length pc,.slice qa d.inst.length qc],.agg #[.slice pa2 d.repos.length pc2,.slice qa2 d.inst.length qc2]] (w3.alloc (.cells #[.slice pa2 d.repos.length pc2,.slice qa2 d.inst.length qc2] 55)) fun e w'=>e= .returned (.bool true)∧Below (w3.alloc (.cells #[.slice pa2 d.repos.length pc2,.slice qa2 d.inst.length qc2] 55)).heap.size (w3.alloc (.cells #[.slice pa2 d.repos.length pc2,.slice qa2 d.inst.length qc2] 55)) w':=by
 have n1:=Ag w2 (.cells #[.slice pa d.repos.length pc,.slice qa d.inst.length qc] 41)
 have n2:=Ag w3 (.cells #[.slice pa2 d.repos.length pc2,.slice qa2 d.inst.length qc2] 55)
 have h3:=Db d d _ _ _ _ _ (h1.bl (Aa n1 (Aa hb n2))) (h2.bl n2)
 rw[Eh]at h3
 exact⟨((Blk.new w2 41 _).bel' hb).bel' n2,Blk.new _ _ _,h3⟩
theorem I3 (a b:AA) (va1 va2 vb1 vb2:Value) (s:ByteArray) (w:World) (ha:AR Ai w a va1 va2) (hb:AR Ai w b vb1 vb2) (hwa:wtA a≤1048576) (_hwb:wtA b≤1048576) (hs:s.size≤9223372036854775807) (hW:Bc w) (hO:Ops w):
 Calls Tryz.prog 6 #[.agg #[va1,va2],.agg #[vb1,vb2],.string s] w fun e w'=>e= .returned (.bool true)∧Below w.heap.size w w':=by
 obtain⟨ar,cr,rfl⟩:=ha.repos.form
 obtain⟨ai,ci,rfl⟩:=ha.inst.form
 obtain⟨br,dr,rfl⟩:=hb.repos.form
 obtain⟨bi,di,rfl⟩:=hb.inst.form
 obtain⟨g,hg⟩:∃g,g=w.heap.size:=⟨_,rfl⟩
 obtain⟨W,hWe⟩:∃W,W=(w.alloc (.cells #[.slice ar a.repos.length cr,.slice ai a.inst.length ci] 41)).alloc (.cells #[.slice br b.repos.length dr,.slice bi b.inst.length di] 41):=⟨_,rfl⟩
 have HX:=Hd (show Blk W g 41 #[.slice ar a.repos.length cr,.slice ai a.inst.length ci]∧Blk W (g+1) 41 #[.slice br b.repos.length dr,.slice bi b.inst.length di]∧Below w.heap.size w W from by
  have h2:=Blk.new (w.alloc (.cells #[.slice ar a.repos.length cr,.slice ai a.inst.length ci] 41)) 41 #[.slice br b.repos.length dr,.slice bi b.inst.length di]
  rw[World.size_alloc]at h2
  rw[hWe,hg]
  exact⟨(Blk.new w 41 #[.slice ar a.repos.length cr,.slice ai a.inst.length ci]).bel' (Ag _ _),h2,Aa (Ag _ _) (Ag _ _)⟩)
 have HF:=Hd (show∀w',Below W.heap.size W w'→w'.cell? ⟨g,0,none⟩=some (.slice ar a.repos.length cr)∧w'.cell? ⟨g,1,none⟩=some (.slice ai a.inst.length ci)∧w'.cell? ⟨g+1,0,none⟩=some (.slice br b.repos.length dr)∧w'.cell? ⟨g+1,1,none⟩=some (.slice bi b.inst.length di)∧g<w'.heap.size∧g+1<w'.heap.size from fun w' h=>⟨(HX.out.1.bel' h).cell 0,(HX.out.1.bel' h).cell 1,(HX.out.2.1.bel' h).cell 0,(HX.out.2.1.bel' h).cell 1,(HX.out.1.bel' h).lt,(HX.out.2.1.bel' h).lt⟩)
 have HTab:=Hd (show∀w',Below W.heap.size W w'→Bc w'∧Ops w'∧AR Ai w' a (.slice ar a.repos.length cr) (.slice ai a.inst.length ci)∧AR Ai w' b (.slice br b.repos.length dr) (.slice bi b.inst.length di)from fun w' h=>⟨hW.below (Aa HX.out.2.2 h),hO.below (Aa HX.out.2.2 h),ha.bl (Aa HX.out.2.2 h),hb.bl (Aa HX.out.2.2 h)⟩)
 have HLa:=Hd (show∀w',Below W.heap.size W w'→Calls Tryz.prog 17 #[.agg #[.slice ar a.repos.length cr,.slice ai a.inst.length ci]] w' (GT w')from fun w' h=>FD a _ _ w' (HTab.out _ h).2.2.1)
 have HLb:=Hd (show∀w',Below W.heap.size W w'→Calls Tryz.prog 17 #[.agg #[.slice br b.repos.length dr,.slice bi b.inst.length di]] w' (GT w')from fun w' h=>FD b _ _ w' (HTab.out _ h).2.2.2)
 have HSm:=Hd (KV hwa)
 have HFw:=Hd (show a.few from JZ (by omega))
 obtain⟨⟨ba,ea⟩,hea⟩:∃p,p=BR a:=⟨_,rfl⟩
 obtain⟨S,hS⟩:∃S:ByteArray,S=⟨ba.toArray⟩:=⟨_,rfl⟩
 obtain⟨ck,hck⟩:∃c,c=A7 a:=⟨_,rfl⟩
 have HEa:=Hd (show∀w',Below W.heap.size W w'→Calls Tryz.prog 11 #[.agg #[.slice ar a.repos.length cr,.slice ai a.inst.length ci]] w' (fun r w''=>r= .returned (.tuple #[.string S,.int .i64 ea])∧Below w'.heap.size w' w'')from fun w' h=>hS▸NZ hea.symm (by omega) w' (HTab.out _ h).2.2.1 (HTab.out _ h).1 (HTab.out _ h).2.1)
 have HRa:=Hd (show∀w',Below W.heap.size W w'→Calls Tryz.prog 21 #[.agg #[.slice ar a.repos.length cr,.slice ai a.inst.length ci]] w' (fun r w''=>r= .returned (.tuple #[.string S,.int .i64 ea])∧Below w'.heap.size w' w'')from fun w' h=>by
  have h2:=GX w' a _ _ (HTab.out _ h).2.2.1 w' (Below.refl _ _) HFw.out (fun hc=>by have:=Ra hc;omega)
  rw[←hea]at h2
  rw[hS]
  exact h2)
 have HCa:=Hd (show∀w',Below W.heap.size W w'→Calls Tryz.prog 15 #[.agg #[.slice ar a.repos.length cr,.slice ai a.inst.length ci]] w' (fun r w''=>r= .returned (.int .i64 ck)∧Below w'.heap.size w' w'')from fun w' h=>hck▸Ie w' a _ _ (HTab.out _ h).2.2.1 w' (Below.refl _ _) HFw.out (HTab.out _ h).1 (HTab.out _ h).2.1)
 have HDa:=Hd (show∀w',Below W.heap.size W w'→Calls Tryz.prog 22 #[.agg #[.slice ar a.repos.length cr,.slice ai a.inst.length ci]] w' (fun r w''=>r= .returned (.int .i64 ck)∧Below w'.heap.size w' w'')from fun w' h=>hck▸ED a _ _ w' (HTab.out _ h).2.2.1 HFw.out)
 have HR:=Hd (show∀w',Below W.heap.size W w'→Calls Tryz.prog 20 #[.agg #[.slice ar a.repos.length cr,.slice ai a.inst.length ci]] w' (GU a w')from fun w' h=>Jh a _ _ w' (HTab.out _ h).2.2.1 HSm.out)
 obtain⟨d0,d1,d2,d3,dl,dl2⟩:=HF.out W (Below.refl _ _)
 have HSs:=Hd hs
 clear hW hO ha hb hwa hea hS hck
 by_cases hlen:20000<s.size
 ·have hli:(20000:Int)<(s.size:Int):=by omega
  clear hlen
  go_enter Tryz.func6,Tryz.ntmps6
  go_upto_region 1 with fail
  rw[←hg,←hWe]
  have HG:=Hd hg
  clear hWe hg
  go_wp2_with (first
   |(go_at_call 17;(with_reducible refine(HLa.out _ (Below.refl _ W)).mono ?_);rintro r w2 ⟨⟨q,rfl⟩,hb2⟩;have HB2:=Hd hb2;obtain⟨e0,e1,e2,e3,el,el2⟩:=HF.out w2 HB2.out;clear hb2;cases q)
   |(go_at_call 17;(with_reducible refine(HLb.out _ HB2.out).mono ?_);rintro r w3 ⟨⟨q,rfl⟩,hb3⟩;have HB3:=Hd (Aa HB2.out hb3);clear hb3;cases q)
   |fail)
  all_goals
   go_ret
   first
    |exact⟨rfl,Aa HX.out.2.2 HB3.out⟩
    |exact⟨rfl,Aa HX.out.2.2 HB2.out⟩
 have hli:¬(20000:Int)<(s.size:Int):=by omega
 clear hlen
 go_enter Tryz.func6,Tryz.ntmps6
 go_upto_region 1 with fail
 rw[←hg,←hWe]
 have HG:=Hd hg
 clear hWe hg
 go_upto_region 3 with (first
  |(go_at_call 17;(with_reducible refine(HLa.out _ (Below.refl _ W)).mono ?_);rintro r w2 ⟨⟨q,rfl⟩,hb2⟩;have HB2:=Hd hb2;obtain⟨e0,e1,e2,e3,el,el2⟩:=HF.out w2 HB2.out;clear hb2;cases q)
  |(go_at_call 17;(with_reducible refine(HLb.out _ HB2.out).mono ?_);rintro r w3 ⟨⟨q,rfl⟩,hb3⟩;have HB3:=Hd (Aa HB2.out hb3);obtain⟨f0,f1,f2,f3,fl,fl2⟩:=HF.out w3 HB3.out;clear hb3;cases q)
  |fail)
 rotate_left
 ·go_ret
  exact⟨rfl,Aa HX.out.2.2 HB3.out⟩
 ·go_ret
  exact⟨rfl,Aa HX.out.2.2 HB2.out⟩
 clear d0 d1 d2 d3 dl dl2 e0 e1 e2 e3 el el2
 go_cut [7,8]from 7 to 34 (fun s7 s8 wx=>∃g7 g8:Nat,s7= .pointer (some ⟨g7,0,none⟩)∧s8= .pointer (some ⟨g8,0,none⟩)∧Hid (Blk wx g7 55 #[.slice ar a.repos.length cr,.slice ai a.inst.length ci]∧Blk wx g8 55 #[.slice br b.repos.length dr,.slice bi b.inst.length di]∧Below w3.heap.size w3 wx))
 case first=>
  go_region
  all_goals
   go_wp2_with fail
   go_meet
   case rel=>first|exact⟨_,_,rfl,rfl,Dq _ _ _ _⟩|exact⟨_,_,rfl,rfl,I1 _ _ _ _⟩
 case rest=>
  obtain⟨gx,gy,rfl,rfl,HZ⟩:=hcut
  have HB4:=Hd (Aa HB3.out HZ.out.2.2)
  have HFx:=Hd (show∀w',Below wc.heap.size wc w'→w'.cell? ⟨gx,0,none⟩=some (.slice ar a.repos.length cr)∧w'.cell? ⟨gx,1,none⟩=some (.slice ai a.inst.length ci)∧gx<w'.heap.size from fun w' h=>⟨(HZ.out.1.bel' h).cell 0,(HZ.out.1.bel' h).cell 1,(HZ.out.1.bel' h).lt⟩)
  clear f0 f1 f2 f3 fl fl2
  obtain⟨x0,x1,xl⟩:=HFx.out wc (Below.refl _ _)
  have HC1:=Hd (HR.out wc HB4.out)
  go_upto_region 5 with (first
   |(go_at_call 20;(with_reducible refine HC1.out.mono ?_);rintro r w5 ⟨zr,zi,rfl,k1,k2⟩;have HB5:=Hd k2;obtain⟨za,zc,rfl⟩:=k1.repos.form;obtain⟨ya,yc,rfl⟩:=k1.inst.form;have HZ5:=Hd k1;clear k1 k2)
   |fail)
  obtain⟨gz,hgz⟩:∃gz,gz=w5.heap.size:=⟨_,rfl⟩
  obtain⟨w6,hw6⟩:∃w6,w6=w5.alloc (.cells #[.slice za a.repos.length zc,.slice ya a.inst.length yc] 55):=⟨_,rfl⟩
  have HQ6:=Hd (show Blk w6 gz 55 #[.slice za a.repos.length zc,.slice ya a.inst.length yc]∧Below wc.heap.size wc w6∧AR Ai w6 a (.slice za a.repos.length zc) (.slice ya a.inst.length yc)from by
   have n1:=Ag w5 (.cells #[.slice za a.repos.length zc,.slice ya a.inst.length yc] 55)
   rw[hgz,hw6]
   exact⟨Blk.new _ _ _,Aa HB5.out n1,HZ5.out.keep n1.size fun b _ h=>⟨n1.block b h,trivial⟩⟩)
  rw[←hw6,←hgz]
  clear hw6 hgz x0 x1 xl HC1
  have HB6:=Hd (Aa HB4.out HQ6.out.2.1)
  obtain⟨d0,d1,d2,d3,dl,dl2⟩:=HF.out w6 HB6.out
  go_upto_region 7 with (first
   |(go_at_call 11;(with_reducible refine(HEa.out _ HB6.out).mono ?_);rintro r w7 ⟨rfl,hb7⟩;have HB7:=Hd (Aa HB6.out hb7);have HC7:=Hd (Aa HQ6.out.2.1 hb7);have HZ7:=Hd hb7;obtain⟨x0,x1,xl⟩:=HFx.out w7 HC7.out;clear hb7)
   |(go_at_call 21;(with_reducible refine(HRa.out _ HB7.out).mono ?_);rintro r w8 ⟨rfl,hb8⟩;have HB8:=Hd (Aa HB7.out hb8);have HC8:=Hd (Aa HC7.out hb8);have HZ8:=Hd (Aa HZ7.out hb8);clear hb8)
   |fail)
  clear d0 d1 d2 d3 dl dl2 x0 x1 xl
  refine QM (ga:=g) (gb:=g+1) (gx:=gx) (gy:=gy) (gz:=gz) (d:=a) (T:=Bm a b) (c:=ck) (ea:=ea) (sa:=S) (by kernel_rfl) (by kernel_rfl) rfl rfl rfl rfl rfl rfl rfl rfl rfl (HX.out.1.bel' HB8.out) (HX.out.2.1.bel' HB8.out) (HZ.out.1.bel' HC8.out) (HZ.out.2.1.bel' HC8.out) (HQ6.out.1.bel' HZ8.out)
   (fun w' h=>HCa.out w' (Aa HB8.out h)) (fun w' h=>HDa.out w' (Aa HB8.out h))
   (fun w' h=>M2 a b _ _ _ _ w' (HTab.out _ (Aa HB8.out h)).2.2.1 (HTab.out _ (Aa HB8.out h)).2.2.2)
   (fun w' h=>Db a b _ _ _ _ w' (HTab.out _ (Aa HB8.out h)).2.2.1 (HTab.out _ (Aa HB8.out h)).2.2.2)
   (fun w' h=>(K5 a _ _ w' (HTab.out _ (Aa HB8.out h)).2.2.1 HSm.out).mono fun r w'' ⟨vr,vi,k1,k2,k3⟩=>⟨vr,vi,k1,k2.keep (Nat.le_refl _) fun _ _ _=>⟨rfl,trivial⟩,k3⟩)
   (fun w' vr vi h k=>by have h2:=Db a a vr vi _ _ w' k (HTab.out _ (Aa HB8.out h)).2.2.1;rw[Eh]at h2;exact h2)
   (fun w' h=>by have h2:=Db a a _ _ _ _ w' (HQ6.out.2.2.bl (Aa HZ8.out h)) (HTab.out _ (Aa HB8.out h)).2.2.1;rw[Eh]at h2;exact h2)
   (by kernel_rfl) (by kernel_rfl) (by kernel_rfl) (by kernel_rfl) ?_
  intro mid w9 hm hb9 h36
  have HB9:=Hd (Aa HB8.out hb9)
  obtain⟨m0,m1,m2,m3,m4,m5,m6,m7,m8,m9,m10,m11,m12,m13,m14,m15,m16,m17,m18,m19,m20,m21,m22,m23,m24,m25,m26,m27,m28,m29,m30,m31,m32,m33,m34,m35,m36,rfl⟩:=OU hm
  have h36':m36= .bool false:=h36
  subst h36'
  clear hm hb9 h36
  simp only[frm,List.take_succ_cons,List.take_zero,List.drop_succ_cons,List.drop_zero,List.cons_append,List.nil_append]
  rename_i hkk
  refine hkk _ _ ?_
  go_upto_region 10 with fail
  obtain⟨gs,hgs⟩:∃gs,gs=w9.heap.size:=⟨_,rfl⟩
  obtain⟨wa,hwa⟩:∃wa,wa=w9.alloc (.cells #[.string s,.string S] 9):=⟨_,rfl⟩
  have HQa:=Hd (show Blk wa gs 9 #[.string s,.string S]∧Below W.heap.size W wa from by
   rw[hwa,hgs]
   exact⟨Blk.new _ _ _,Aa HB9.out (Ag _ _)⟩)
  rw[←hwa,←hgs]
  clear hwa hgs
  go_loopw [88] (fun i wr=>∃k:Nat,k≤2∧i= .int .i64 k∧Hid (Below wa.heap.size wa wr)) (fun i _=>2-(intOf i).toNat)
  case atStart=>exact⟨0,by omega,rfl,Hd (Below.refl _ _)⟩
  case round=>
   obtain⟨k,hk,rfl,HQ⟩:=hrel
   have HBr:=Hd (Aa HQa.out.2 HQ.out)
   by_cases hlt:k<2
   ·have hki:(k:Int)<2:=by omega
    obtain⟨z,hz⟩:∃z:ByteArray,wr.cell? ⟨gs,k,none⟩=some (.string z):=by
     rw[(HQa.out.1.bel' HQ.out).cell k]
     match k,hlt with
     |0,_=>exact⟨_,rfl⟩
     |1,_=>exact⟨_,rfl⟩
    have zl:=(HQa.out.1.bel' HQ.out).lt
    obtain⟨⟨d,p,x⟩,hv⟩:∃y,y=QC z:=⟨_,rfl⟩
    have HD:=Hd (show∀w',Below W.heap.size W w'→Calls Tryz.prog 18 #[.string z] w' fun r w''=>QH w'.heap.size d p x r w''∧Below w'.heap.size w' w'' from fun w' h=>(KU z w' (HTab.out _ h).1 (HTab.out _ h).2.1).mono fun r w'' ⟨k1,k2⟩=>⟨LS k2 hv,k1⟩)
    have HE:=Hd (show∀w',Calls Tryz.prog 26 #[.string z] w' fun r w''=>QH w'.heap.size d p x r w''∧Below w'.heap.size w' w'' from fun w'=>(GY z w').mono fun r w'' ⟨k1,k2⟩=>⟨LS k2 hv,k1⟩)
    have HLt:=Hd hlt
    clear hlt hv
    go_wp2_with (first
     |(go_at_call 18;(with_reducible refine(HD.out _ HBr.out).mono ?_);rintro r w2 ⟨⟨vr,vi,rfl,k1⟩,hb2⟩;obtain⟨pa,pc,rfl⟩:=k1.repos.form;obtain⟨qa,qc,rfl⟩:=k1.inst.form;have HK1:=Hd k1;have HT2:=Hd (Aa HQ.out hb2);clear k1 hb2)
     |(go_at_call 26;(with_reducible refine(HE.out _).mono ?_);rintro r w3 ⟨⟨vr,vi,rfl,k1⟩,hb3⟩;obtain⟨pa2,pc2,rfl⟩:=k1.repos.form;obtain⟨qa2,qc2,rfl⟩:=k1.inst.form;have HN:=Hd (OP w2 w3 d pa pc qa qc pa2 pc2 qa2 qc2 HK1.out k1 hb3);have HT3:=Hd (Aa (Aa HT2.out (Ag _ _)) (Aa hb3 (Ag w3 (.cells #[.slice pa2 d.repos.length pc2,.slice qa2 d.inst.length qc2] 55))));clear k1 hb3;have y0:=HN.out.1.cell 0;have y1:=HN.out.1.cell 1;have yl:=HN.out.1.lt;have y2:=HN.out.2.1.cell 0;have y3:=HN.out.2.1.cell 1;have yl2:=HN.out.2.1.lt)
     |(go_at_call 24;(with_reducible refine(HN.out.2.2).mono ?_);rintro r w4 ⟨rfl,hb4⟩;have HT4:=Hd (Aa HT3.out hb4);clear hb4)
     |fail)
    go_roundw
    case rel=>exact⟨k+1,HLt.out,by go_num,Hd HT4.out⟩
    case measure=>have:=HLt.out;simp[intOf];omega
   ·obtain rfl:k=2:=by omega
    go_wp2_with fail
    go_ret
    exact⟨rfl,Aa HX.out.2.2 HBr.out⟩
open Go.ChangeShapes Go.WideShapes Go.ChangeAt Go.WideMaps Go.WideElems Go.RowKit Go.Maps Go.Deep
theorem Rb:Tryz.prog.globalNamed "chandlery/span.ops" =some 1:=by kernel_rfl
theorem Qz:Tryz.prog.globalNamed "chandlery/dep.words" =some 0:=by kernel_rfl
theorem Q8:(Tryz.prog.globals[1]?).map (·.type)=some 206:=by kernel_rfl
theorem Qi:(Tryz.prog.globals[0]?).map (·.type)=some 155:=by kernel_rfl
abbrev KD {H:Type}:List (String×DataW H):= [("chandlery/span.ops",Rows.laid_chandlery_span_ops),("chandlery/dep.words",Rows.laid_chandlery_dep_words)]
theorem c64:Tryz.prog.cellsOf 155=7:=by kernel_rfl
theorem O7 {W:World} (h:laidMetH Tryz.prog KD W):Bc W∧Ops W:=by
 rw[MakeChecks.laidMetH_plain _ _ _ (by kernel_rfl)]at h
 obtain⟨ps,⟨g0,t0,cs0,f0,p0,q0,hg0,ht0,hv0,hd0,⟨g1,t1,cs1,f1,p1,q1,hg1,ht1,hv1,hd1,_,_⟩,_⟩,_,_⟩:=h
 obtain rfl:=Option.some.inj (Rb.symm.trans hg0)
 obtain rfl:=Option.some.inj (Qz.symm.trans hg1)
 obtain rfl:=Option.some.inj (Q8.symm.trans ht0)
 obtain rfl:=Option.some.inj (Qi.symm.trans ht1)
 constructor
 ·obtain⟨xs,m1,rfl,hx1,hlen,hn3,hel⟩:=DataW.trod_array Tryz.underlying155 hd1
  rw[c64]at hlen
  have hcl:∀j,W.cell? ⟨0,j,none⟩=cs1[j]?:=fun j=>World.var?_cell hg1 hv1 j
  have hw:∀j,j<7→W.cell? ⟨0,j,none⟩=some (.string (BG j)):=by
   obtain⟨l⟩:=cs1
   simp only at hlen hel hcl
   match l,hlen with
   | [c0,c1,c2,c3,c4,c5,c6],_=>
     match xs,hn3,hx1,hel with
     | [x0,x1,x2,x3,x4,x5,x6],_,hx1,hel=>
       have hx2:=(Prod.mk.inj hx1).1
       simp only[Rows.laid_chandlery_dep_words,List.map_cons,List.map_nil,DataW.agg.injEq,List.cons.injEq,and_true]at hx2
       have one:∀(i:Nat) (c:Value) (x:DataW Unit×List MemPlace) (b:List UInt8),DataW.trod (fun _=>()) Tryz.prog W 0 (fun _=>true) false m1 9 [c]=some x→DataW.lit (.string b)=x.1→c= .string ⟨b.toArray⟩:=fun i c x b h1 h2=>by
        obtain⟨s,hs,hx,_⟩:=DataW.trod_string Tryz.underlying9 h1
        rw[hx]at h2
        simp only[DataW.lit.injEq,Lit.string.injEq]at h2
        simp only[List.cons.injEq,and_true]at hs
        rw[hs,h2]
       intro j hj
       rw[hcl]
       have:j=0∨j=1∨j=2∨j=3∨j=4∨j=5∨j=6:=by omega
       rcases this with rfl|rfl|rfl|rfl|rfl|rfl|rfl
       ·exact congrArg some (one 0 _ x0 _ (by simpa [c9]using hel 0 (by omega)) hx2.1)
       ·exact congrArg some (one 1 _ x1 _ (by simpa [c9]using hel 1 (by omega)) hx2.2.1)
       ·exact congrArg some (one 2 _ x2 _ (by simpa [c9]using hel 2 (by omega)) hx2.2.2.1)
       ·exact congrArg some (one 3 _ x3 _ (by simpa [c9]using hel 3 (by omega)) hx2.2.2.2.1)
       ·exact congrArg some (one 4 _ x4 _ (by simpa [c9]using hel 4 (by omega)) hx2.2.2.2.2.1)
       ·exact congrArg some (one 5 _ x5 _ (by simpa [c9]using hel 5 (by omega)) hx2.2.2.2.2.2.1)
       ·exact congrArg some (one 6 _ x6 _ (by simpa [c9]using hel 6 (by omega)) hx2.2.2.2.2.2.2)
  exact⟨FY (hw 0 (by omega)),hw⟩
 ·rcases open_map Tryz.underlying206 hd0 with ⟨_,hx⟩|⟨bm,es,clock,m,rfl,hcs,hb,_,F,hx⟩
  ·simp[Rows.laid_chandlery_span_ops]at hx
  have hcell:∀j,W.cell? ⟨1,j,none⟩=cs0[j]?:=fun j=>World.var?_cell hg0 hv0 j
  have h0:W.cell? ⟨1,0,none⟩=some (.map (some bm)):=by
   have:=hcell 0
   rw[Array.eq_one_of_toList hcs]at this
   simpa using this
  have hown:=World.ownsMap_of_fit (R:=plainElem Tryz.prog 5) hb F (fun x _ z hz=>elemAt_plainElem_int Tryz.underlying5 hz)
  have hx2:=(Prod.mk.inj hx).1
  rw[←hx2]at hown
  exact⟨FY h0,Unit,bm,es.size,h0,hown⟩
end Go.Proofs.YtdpjjnbelgaagaaGreatDoor
