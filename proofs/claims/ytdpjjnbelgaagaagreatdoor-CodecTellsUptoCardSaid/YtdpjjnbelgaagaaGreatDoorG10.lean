/- codec.Check. Conditions: as each theorem names them. -/
import Derived.Test.YtdpjjnbelgaagaaGreatDoorG09
import Derived.Test.YtdpjjnbelgaagaaGreatDoorG07
import Derived.Deep.QuietTactic
import Derived.BigQuiet
namespace Go.Proofs.YtdpjjnbelgaagaaGreatDoor
set_option maxHeartbeats 32000000
open Go.ChangeShapes Go.WideShapes Go.ChangeAt Go.RowKit Go.Deep
set_option maxRecDepth 100000
theorem K4 (W0:World) (p:Aq) (r:AE) (w:World) (hp:Ah Ai W0 p r) (hc:p.few) (hB:Below W0.heap.size W0 w) (hW:Bc w) (hO:Ops w):
 Calls Tryz.prog 33 #[p.val r] w fun e w'=>e= .returned (.bool (!A9 p))∧Below w.heap.size w w':=by
 rcases r with ⟨r1,r2,r3,r4,r5,r6,r7,r8,r9⟩
 obtain⟨a1,q1,(rfl:r1=_)⟩:=hp.prov.form
 obtain⟨a2,q2,(rfl:r2=_)⟩:=hp.req.form
 obtain⟨a3,q3,(rfl:r3=_)⟩:=hp.con.form
 obtain⟨a4,q4,(rfl:r4=_)⟩:=hp.obs.form
 obtain⟨a5,q5,(rfl:r5=_)⟩:=hp.reco.form
 obtain⟨a6,q6,(rfl:r6=_)⟩:=hp.sup.form
 obtain⟨a7,q7,(rfl:r7=_)⟩:=hp.sug.form
 obtain⟨a8,q8,(rfl:r8=_)⟩:=hp.enh.form
 obtain⟨a9,q9,(rfl:r9=_)⟩:=hp.files.form
 have hnb:=Ag w (.cells #[.string p.name,.int .i64 p.ep,.string p.ver,.string p.rel,.int .u8 p.arch,.string p.vendor,.slice a1 p.prov.length q1,.slice a2 (Ab p.req).length q2,.slice a3 (Ab p.con).length q3,.slice a4 p.obs.length q4,.slice a5 (Ab p.reco).length q5,.slice a6 (Ab p.sup).length q6,.slice a7 (Ab p.sug).length q7,.slice a8 (Ab p.enh).length q8,.slice a9 p.files.length q9] 29)
 have HB1:=Hd hnb
 have HM:=Hd (show Calls Tryz.prog 34 #[.agg #[.string p.name,.int .i64 p.ep,.string p.ver,.string p.rel,.int .u8 p.arch,.string p.vendor,.slice a1 p.prov.length q1,.slice a2 (Ab p.req).length q2,.slice a3 (Ab p.con).length q3,.slice a4 p.obs.length q4,.slice a5 (Ab p.reco).length q5,.slice a6 (Ab p.sup).length q6,.slice a7 (Ab p.sug).length q7,.slice a8 (Ab p.enh).length q8,.slice a9 p.files.length q9]] (w.alloc (.cells #[.string p.name,.int .i64 p.ep,.string p.ver,.string p.rel,.int .u8 p.arch,.string p.vendor,.slice a1 p.prov.length q1,.slice a2 (Ab p.req).length q2,.slice a3 (Ab p.con).length q3,.slice a4 p.obs.length q4,.slice a5 (Ab p.reco).length q5,.slice a6 (Ab p.sup).length q6,.slice a7 (Ab p.sug).length q7,.slice a8 (Ab p.enh).length q8,.slice a9 p.files.length q9] 29)) fun e w'=>e= .returned (.bool (A9 p))∧Below (w.alloc (.cells #[.string p.name,.int .i64 p.ep,.string p.ver,.string p.rel,.int .u8 p.arch,.string p.vendor,.slice a1 p.prov.length q1,.slice a2 (Ab p.req).length q2,.slice a3 (Ab p.con).length q3,.slice a4 p.obs.length q4,.slice a5 (Ab p.reco).length q5,.slice a6 (Ab p.sup).length q6,.slice a7 (Ab p.sug).length q7,.slice a8 (Ab p.enh).length q8,.slice a9 p.files.length q9] 29)).heap.size (w.alloc (.cells #[.string p.name,.int .i64 p.ep,.string p.ver,.string p.rel,.int .u8 p.arch,.string p.vendor,.slice a1 p.prov.length q1,.slice a2 (Ab p.req).length q2,.slice a3 (Ab p.con).length q3,.slice a4 p.obs.length q4,.slice a5 (Ab p.reco).length q5,.slice a6 (Ab p.sup).length q6,.slice a7 (Ab p.sug).length q7,.slice a8 (Ab p.enh).length q8,.slice a9 p.files.length q9] 29)) w' from
  JB W0 p _ hp _ (hB.trans (hnb.mono hB.size)) hc (hW.below hnb) (hO.below hnb))
 obtain⟨m,hm⟩:∃m,m=A9 p:=⟨_,rfl⟩
 rw[←hm]at HM ⊢
 clear hp hc hB hW hO hnb hm
 unfold Aq.val
 go_enter Tryz.func33,Tryz.ntmps33
 go_wp2_with (first
  |(go_at_call 34;(with_reducible refine HM.out.mono ?_);rintro e w2 ⟨rfl,HBc⟩;have HB2:=Hd (Aa HB1.out HBc);clear HBc)
  |fail)
 go_ret
 exact⟨rfl,HB2.out⟩
def Hp (x:AK):Bool:=decide (0≤x.prio) && decide (x.prio≤1024)
theorem K3 (x:AK) (r:Value) (w:World) (hr:∃a c,r= .slice a x.pkgs.length c):Calls Tryz.prog 36 #[.agg #[.int .i64 x.prio,r]] w fun e w'=>e= .returned (.bool (!Hp x))∧Below w.heap.size w w':=by
 obtain⟨a,c,rfl⟩:=hr
 have HB:=Hd (Ag w (.cells #[.int .i64 x.prio,.slice a x.pkgs.length c] 38))
 unfold Hp
 obtain⟨n,hn⟩:∃n,n=x.prio:=⟨_,rfl⟩
 rw[←hn]at HB ⊢
 clear hn
 by_cases h0:n<0
 ·have d0:decide (n<0)=true:=by simpa using h0
  rw[decide_eq_false (show¬0≤n by omega)]
  go_enter Tryz.func36,Tryz.ntmps36
  go_wp2_with fail
  go_ret
  exact⟨rfl,HB.out⟩
 ·have d0:decide (n<0)=false:=by simpa using h0
  rw[decide_eq_true (show 0≤n by omega)]
  by_cases h1:1024<n
  ·have d1:decide (1024<n)=true:=by simpa using h1
   rw[decide_eq_false (show¬n≤1024 by omega)]
   go_enter Tryz.func36,Tryz.ntmps36
   go_wp2_with fail
   go_ret
   exact⟨rfl,HB.out⟩
  ·have d1:decide (1024<n)=false:=by simpa using h1
   rw[decide_eq_true (show n≤1024 by omega)]
   go_enter Tryz.func36,Tryz.ntmps36
   go_wp2_with fail
   go_ret
   exact⟨rfl,HB.out⟩
abbrev Dy:Value:= .func (.func 33) #[] #[]
theorem IV {α:Type} (l:List α) (f:α→Bool):(l.any fun x=> !(f x))= !(l.all f):=by rw[List.not_all_eq_any_not]
theorem FK (W0:World) (l:List Aq) (vl:Value) (w:World) (hl:LIn AN Ai W0 l vl) (hc:∀p∈l,p.few) (hB:Below W0.heap.size W0 w) (hW:Bc w) (hO:Ops w):
 Calls Tryz.prog 38 #[vl,Dy] w fun e w'=>e= .returned (.bool (!(l.all A9)))∧Below w.heap.size w w':=by
 rw[←IV]
 exact J6 W0 l vl hl (fun p=> !(A9 p)) w hB fun p hp r w' hh hw'=>K4 W0 p r w' hh (hc p hp) (hB.trans (hw'.mono hB.size)) (hW.below hw') (hO.below hw')
theorem K2 (W0:World) (x:AK) (r:Value) (bc:Nat) (w:World) (hr:LIn AN Ai W0 x.pkgs r) (hc:∀p∈x.pkgs,p.few) (hb:Blk w bc 75 #[Dy]) (hB:Below W0.heap.size W0 w) (hW:Bc w) (hO:Ops w):
 Calls Tryz.prog 37 #[.agg #[.int .i64 x.prio,r],.pointer (some ⟨bc,0,none⟩)] w fun e w'=>e= .returned (.bool (!(x.pkgs.all A9)))∧Below w.heap.size w w':=by
 obtain⟨a,c,rfl⟩:=hr.form
 have c0:w.cell? ⟨bc,0,none⟩=some Dy:=hb.cell 0
 have cl:bc<w.heap.size:=hb.lt
 have hnb:=Ag w (.cells #[.int .i64 x.prio,.slice a x.pkgs.length c] 38)
 have HB1:=Hd hnb
 have HM:=Hd (FK W0 x.pkgs _ _ hr hc (hB.trans (hnb.mono hB.size)) (hW.below hnb) (hO.below hnb))
 obtain⟨m,hm⟩:∃m,m= !(x.pkgs.all A9):=⟨_,rfl⟩
 rw[←hm]at HM ⊢
 clear hr hc hB hW hO hnb hm hb
 go_enter Tryz.func37,Tryz.ntmps37
 go_wp2_with (first
  |(go_at_call 38;(with_reducible refine HM.out.mono ?_);rintro e w2 ⟨rfl,HBc⟩;have HB2:=Hd (Aa HB1.out HBc);clear HBc)
  |fail)
 go_ret
 exact⟨rfl,HB2.out⟩
structure AA.few (d:AA):Prop where
 r:∀x∈d.repos,∀p∈x.pkgs,p.few
 i:∀p∈d.inst,p.few
 t:d.total≤4611686018427387904
theorem G8 {l:List AK} {k:Nat} (h:k<l.length):CR (l.take (k+1))=CR (l.take k)+l[k].pkgs.length:=by
 unfold CR
 rw[List.take_succ_eq_append_getElem h]
 simp only[List.map_append,List.map_cons,List.map_nil,List.sum_append,List.sum_cons,List.sum_nil,Nat.add_zero]
theorem Lj (l:List AK) (k:Nat):CR (l.take k)≤CR l:=by
 unfold CR
 conv=>rhs;rw[←List.take_append_drop k l]
 rw[List.map_append,List.sum_append]
 omega
theorem Ie (W0:World) (d:AA) (vr vi:Value) (hd:AR Ai W0 d vr vi) (w:World) (hB:Below W0.heap.size W0 w) (hf:d.few) (hW:Bc w) (hO:Ops w):
 Calls Tryz.prog 15 #[.agg #[vr,vi]] w fun e w'=>e= .returned (.int .i64 (A7 d))∧Below w.heap.size w w':=by
 obtain⟨ar,cr,rfl⟩:=hd.repos.form
 obtain⟨ai,ci,rfl⟩:=hd.inst.form
 have nr:=hd.repos.bound
 have ni:=hd.inst.bound
 have nt:=hf.t
 rw[DL]at nt
 obtain⟨T,hT⟩:∃T,T=A7 d:=⟨_,rfl⟩
 rw[←hT]
 unfold A7 at hT
 rw[DL]at hT
 have HL:=Hd hd.repos
 have HBW:=Hd hB
 obtain⟨g,hg⟩:∃g,g=w.heap.size:=⟨_,rfl⟩
 obtain⟨w1,hw1⟩:∃w1,w1=w.alloc (.cells #[.slice ar d.repos.length cr,.slice ai d.inst.length ci] 41):=⟨_,rfl⟩
 have b1:Below w.heap.size w w1:=by rw[hw1];exact Ag _ _
 have k1:Blk w1 g 41 #[.slice ar d.repos.length cr,.slice ai d.inst.length ci]:=by rw[hw1,hg];exact Blk.new _ _ _
 have HSt:=Hd (show Below w.heap.size w w1∧Blk w1 g 41 #[.slice ar d.repos.length cr,.slice ai d.inst.length ci]from⟨b1,k1⟩)
 have HStb:=Hd (show∀W W',(Below w.heap.size w W∧Blk W g 41 #[.slice ar d.repos.length cr,.slice ai d.inst.length ci])→Below W.heap.size W W'→(Below w.heap.size w W'∧Blk W' g 41 #[.slice ar d.repos.length cr,.slice ai d.inst.length ci])from fun W W' h hb=>⟨h.1.trans (hb.mono h.1.size),h.2.below hb h.2.lt⟩)
 have HC2:=Hd (show∀W,Below w.heap.size w W→Calls Tryz.prog 35 #[.slice ar d.repos.length cr,.func (.func 36) #[] #[]] W fun e w'=>e= .returned (.bool (!(d.repos.all Hp)))∧Below W.heap.size W w' from fun W h=>by
  rw[←IV]
  exact J8 W0 d.repos _ hd.repos (fun x=> !(Hp x)) W (hB.trans (h.mono hB.size)) fun x _ r w' hh _=>K3 x r w' hh.2.form)
 have HC3:=Hd (show∀W bc,Below w.heap.size w W→Blk W bc 75 #[Dy]→Calls Tryz.prog 35 #[.slice ar d.repos.length cr,.func (.func 37) #[] #[.pointer (some ⟨bc,0,none⟩)]] W fun e w'=>e= .returned (.bool (!(d.repos.all fun x=>x.pkgs.all A9)))∧Below W.heap.size W w' from fun W bc h hb=>by
  rw[←IV]
  exact J7 W0 d.repos _ hd.repos bc (fun x=> !(x.pkgs.all A9)) W (hB.trans (h.mono hB.size)) fun x hx r w' hh hw'=>K2 W0 x r bc w' hh.2 (hf.r x hx) (hb.below hw' hb.lt) (hB.trans ((h.trans (hw'.mono h.size)).mono hB.size)) (hW.below (Aa h hw')) (hO.below (Aa h hw')))
 have HC1:=Hd (show∀W,Below w.heap.size w W→Calls Tryz.prog 38 #[.slice ai d.inst.length ci,Dy] W fun e w'=>e= .returned (.bool (!(d.inst.all A9)))∧Below W.heap.size W w' from fun W h=>FK W0 d.inst _ W hd.inst hf.i (hB.trans (h.mono hB.size)) (hW.below h) (hO.below h))
 obtain⟨p2,hp2⟩:∃b,b=d.repos.all Hp:=⟨_,rfl⟩
 obtain⟨p3,hp3⟩:∃b,b=d.repos.all fun x=>x.pkgs.all A9:=⟨_,rfl⟩
 obtain⟨p1,hp1⟩:∃b,b=d.inst.all A9:=⟨_,rfl⟩
 rw[show d.repos.all (fun r=>decide (0≤r.prio) && decide (r.prio≤1024))=d.repos.all Hp from rfl]at hT
 rw[←hp2]at hT HC2
 rw[←hp3]at hT HC3
 rw[←hp1]at hT HC1
 have d0:w1.cell? ⟨g,0,none⟩=some (.slice ar d.repos.length cr):=k1.cell 0
 have d1:w1.cell? ⟨g,1,none⟩=some (.slice ai d.inst.length ci):=k1.cell 1
 have dl:g<w1.heap.size:=k1.lt
 obtain⟨SP,hSP⟩:∃s,s=CR d.repos:=⟨_,rfl⟩
 rw[←hSP]at hT nt
 have HSP:=Hd hSP
 have HT:=Hd hT
 clear hd hB hf hW hO b1 k1 hp1 hp2 hp3 hT hSP
 go_enter Tryz.func15,Tryz.ntmps15
 go_upto_region 1 with fail
 rw[←hw1,←hg]
 have HG:=Hd hg
 clear hw1 hg
 go_wp2_with fail
 clear d0 d1 dl
 go_loopw [3,5,13] (fun x y i wr=>∃k q:Nat,k≤d.repos.length∧i= .int .i64 k∧x= .int .i64 (q:Int)∧q≤4611686018427387904∧Hid (q=d.inst.length+CR (d.repos.take k)∧Below w.heap.size w wr∧Blk wr g 41 #[.slice ar d.repos.length cr,.slice ai d.inst.length ci])) (fun x y i wr=>d.repos.length-(intOf i).toNat)
 case atStart=>exact⟨0,d.inst.length,by omega,rfl,rfl,ni,Hd ⟨by simp[CR],HSt.out⟩⟩
 case round=>
  obtain⟨k,q,hk,rfl,rfl,hq,HQ⟩:=hrel
  have HSt:=Hd HQ.out.2
  by_cases hlt:k<d.repos.length
  ·have hki:(k:Int)<(d.repos.length:Int):=by omega
   obtain⟨b,o,r,ha,_,hcs0,hh⟩:=HL.out.at_ k hlt
   obtain⟨x,hx⟩:∃x,x=d.repos[k]:=⟨_,rfl⟩
   have hsum:=G8 hlt
   have hsle:=Lj d.repos (k+1)
   rw[←hx]at hcs0 hh hsum
   subst ha
   dsimp only[Az]at hcs0 r
   obtain⟨ra,rc,rfl⟩:=hh.2.form
   have hcs:=hcs0.same ((HBW.out.trans (HSt.out.1.mono HBW.out.size)).block b hcs0.1) (HBW.out.trans (HSt.out.1.mono HBW.out.size)).size
   have e0:wr.cell? ⟨b,o+k*2,none⟩=some (.int .i64 x.prio):=hcs.2 0 (show 0<2 by omega)
   have e1:wr.cell? ⟨b,o+k*2+1,none⟩=some (.slice ra x.pkgs.length rc):=hcs.2 1 (show 1<2 by omega)
   have eb:b<wr.heap.size:=hcs.1
   have hqm:q+x.pkgs.length≤4611686018427387904:=by have:=HQ.out.1;have:=HSP.out;omega
   have HSum:=Hd (show q+x.pkgs.length=d.inst.length+CR (d.repos.take (k+1)) by have:=HQ.out.1;omega)
   clear hcs hcs0 hh hx hsum hsle
   go_wp2_with fail
   go_roundw
   case rel=>exact⟨k+1,q+x.pkgs.length,by omega,by go_num,by go_num,hqm,Hd ⟨HSum.out,HStb.out _ _ HSt.out (Ag _ _)⟩⟩
   case measure=>simp[intOf];omega
  ·obtain rfl:k=d.repos.length:=by omega
   have HQ2:=Hd (show q=SP+d.inst.length by have:=HQ.out.1;rw[List.take_length]at this;have:=HSP.out;omega)
   have d0:wr.cell? ⟨g,0,none⟩=some (.slice ar d.repos.length cr):=HSt.out.2.cell 0
   have d1:wr.cell? ⟨g,1,none⟩=some (.slice ai d.inst.length ci):=HSt.out.2.cell 1
   have dl:g<wr.heap.size:=HSt.out.2.lt
   by_cases h1:16<d.repos.length
   ·have c1:decide ((16:Int)<(d.repos.length:Int))=true:=by rw[decide_eq_true];omega
    have c2:(16:Int)<(d.repos.length:Int):=by omega
    have HT2:=Hd (show T=40 by rw[HT.out,if_pos (.inl h1)])
    go_wp2_with fail
    go_ret
    exact⟨CW HT2.out.symm,HSt.out.1⟩
   ·have c1:decide ((16:Int)<(d.repos.length:Int))=false:=by rw[decide_eq_false];omega
    have c2:(d.repos.length:Int)≤16:=by omega
    by_cases h2:256<q
    ·have c3:decide ((256:Int)<(q:Int))=true:=by rw[decide_eq_true];omega
     have c4:(256:Int)<(q:Int):=by omega
     have HT2:=Hd (show T=40 by rw[HT.out,if_pos (.inr (by have:=HQ2.out;omega))])
     go_wp2_with fail
     go_ret
     exact⟨CW HT2.out.symm,HSt.out.1⟩
    ·have c3:decide ((256:Int)<(q:Int))=false:=by rw[decide_eq_false];omega
     have c4:(q:Int)≤256:=by omega
     have HT2:=Hd (show T=if p2=false then 20 else if (p3 && p1)=false then 4 else 0 by rw[HT.out,if_neg (by have:=HQ2.out;omega)])
     have HB9:=Hd (HStb.out _ _ HSt.out (Ag wr (.cells #[Dy] 75)))
     have hb9:Blk (wr.alloc (.cells #[Dy] 75)) wr.heap.size 75 #[Dy]:=Blk.new _ _ _
     obtain⟨w9,hw9⟩:∃w9,w9=wr.alloc (.cells #[Dy] 75):=⟨_,rfl⟩
     obtain⟨bc,hbc⟩:∃bc,bc=wr.heap.size:=⟨_,rfl⟩
     rw[←hw9]at HB9 hb9
     rw[←hbc]at hb9
     have e0:w9.cell? ⟨g,0,none⟩=some (.slice ar d.repos.length cr):=HB9.out.2.cell 0
     have el:g<w9.heap.size:=HB9.out.2.lt
     have HBc:=Hd hb9
     clear hb9 h1 h2
     have hsf:=fun(a:Addr) (w:World)=>run_store Tryz.prog w a Dy .plain rfl
     go_upto_region 10 with fail
     rw[←hw9,←hbc]
     clear hw9 hbc d0 d1 dl hsf
     have HSt:=Hd HB9.out
     cases p2 with
     |false=>
      have HT3:=Hd (show T=20 by rw[HT2.out];rfl)
      go_wp2_with (first
       |(go_at_call 35;(with_reducible refine(HC2.out _ HSt.out.1).mono ?_);rintro e wx ⟨rfl,HBd⟩;have HSt:=Hd (HStb.out _ _ HSt.out HBd);have HBc:=Hd (HBc.out.below HBd HBc.out.lt);clear HBd;clear e0 el;have e0:wx.cell? ⟨g,0,none⟩=some (.slice ar d.repos.length cr):=HSt.out.2.cell 0;have e1:wx.cell? ⟨g,1,none⟩=some (.slice ai d.inst.length ci):=HSt.out.2.cell 1;have el:g<wx.heap.size:=HSt.out.2.lt;have ec:wx.cell? ⟨bc,0,none⟩=some Dy:=HBc.out.cell 0;have ecl:bc<wx.heap.size:=HBc.out.lt)
       |fail)
      go_ret
      exact⟨CW HT3.out.symm,HSt.out.1⟩
     |true=>
      cases p3 with
      |false=>
       have HT3:=Hd (show T=4 by rw[HT2.out];rfl)
       go_wp2_with (first
        |(go_at_call 35;(with_reducible refine(HC2.out _ HSt.out.1).mono ?_);rintro e wx ⟨rfl,HBd⟩;have HSt:=Hd (HStb.out _ _ HSt.out HBd);have HBc:=Hd (HBc.out.below HBd HBc.out.lt);clear HBd;clear e0 el;have e0:wx.cell? ⟨g,0,none⟩=some (.slice ar d.repos.length cr):=HSt.out.2.cell 0;have e1:wx.cell? ⟨g,1,none⟩=some (.slice ai d.inst.length ci):=HSt.out.2.cell 1;have el:g<wx.heap.size:=HSt.out.2.lt;have ec:wx.cell? ⟨bc,0,none⟩=some Dy:=HBc.out.cell 0;have ecl:bc<wx.heap.size:=HBc.out.lt)
        |(go_at_call 35;(with_reducible refine(HC3.out _ bc HSt.out.1 HBc.out).mono ?_);rintro e wx ⟨rfl,HBd⟩;clear e1 ec ecl;have HSt:=Hd (HStb.out _ _ HSt.out HBd);have HBc:=Hd (HBc.out.below HBd HBc.out.lt);clear HBd;clear e0 el;have e0:wx.cell? ⟨g,0,none⟩=some (.slice ar d.repos.length cr):=HSt.out.2.cell 0;have e1:wx.cell? ⟨g,1,none⟩=some (.slice ai d.inst.length ci):=HSt.out.2.cell 1;have el:g<wx.heap.size:=HSt.out.2.lt;have ec:wx.cell? ⟨bc,0,none⟩=some Dy:=HBc.out.cell 0;have ecl:bc<wx.heap.size:=HBc.out.lt)
        |fail)
       go_ret
       exact⟨CW HT3.out.symm,HSt.out.1⟩
      |true=>
       cases p1 with
       |false=>
        have HT3:=Hd (show T=4 by rw[HT2.out];rfl)
        go_wp2_with (first
         |(go_at_call 35;(with_reducible refine(HC2.out _ HSt.out.1).mono ?_);rintro e wx ⟨rfl,HBd⟩;have HSt:=Hd (HStb.out _ _ HSt.out HBd);have HBc:=Hd (HBc.out.below HBd HBc.out.lt);clear HBd;clear e0 el;have e0:wx.cell? ⟨g,0,none⟩=some (.slice ar d.repos.length cr):=HSt.out.2.cell 0;have e1:wx.cell? ⟨g,1,none⟩=some (.slice ai d.inst.length ci):=HSt.out.2.cell 1;have el:g<wx.heap.size:=HSt.out.2.lt;have ec:wx.cell? ⟨bc,0,none⟩=some Dy:=HBc.out.cell 0;have ecl:bc<wx.heap.size:=HBc.out.lt)
         |(go_at_call 35;(with_reducible refine(HC3.out _ bc HSt.out.1 HBc.out).mono ?_);rintro e wx ⟨rfl,HBd⟩;clear e1 ec ecl;have HSt:=Hd (HStb.out _ _ HSt.out HBd);have HBc:=Hd (HBc.out.below HBd HBc.out.lt);clear HBd;clear e0 el;have e0:wx.cell? ⟨g,0,none⟩=some (.slice ar d.repos.length cr):=HSt.out.2.cell 0;have e1:wx.cell? ⟨g,1,none⟩=some (.slice ai d.inst.length ci):=HSt.out.2.cell 1;have el:g<wx.heap.size:=HSt.out.2.lt;have ec:wx.cell? ⟨bc,0,none⟩=some Dy:=HBc.out.cell 0;have ecl:bc<wx.heap.size:=HBc.out.lt)
         |(go_at_call 38;(with_reducible refine(HC1.out _ HSt.out.1).mono ?_);rintro e wx ⟨rfl,HBd⟩;clear e1 ec ecl;have HSt:=Hd (HStb.out _ _ HSt.out HBd);have HBc:=Hd (HBc.out.below HBd HBc.out.lt);clear HBd;clear e0 el;have e0:wx.cell? ⟨g,0,none⟩=some (.slice ar d.repos.length cr):=HSt.out.2.cell 0;have e1:wx.cell? ⟨g,1,none⟩=some (.slice ai d.inst.length ci):=HSt.out.2.cell 1;have el:g<wx.heap.size:=HSt.out.2.lt;have ec:wx.cell? ⟨bc,0,none⟩=some Dy:=HBc.out.cell 0;have ecl:bc<wx.heap.size:=HBc.out.lt)
         |fail)
        go_ret
        exact⟨CW HT3.out.symm,HSt.out.1⟩
       |true=>
        have HT3:=Hd (show T=0 by rw[HT2.out];rfl)
        go_wp2_with (first
         |(go_at_call 35;(with_reducible refine(HC2.out _ HSt.out.1).mono ?_);rintro e wx ⟨rfl,HBd⟩;have HSt:=Hd (HStb.out _ _ HSt.out HBd);have HBc:=Hd (HBc.out.below HBd HBc.out.lt);clear HBd;clear e0 el;have e0:wx.cell? ⟨g,0,none⟩=some (.slice ar d.repos.length cr):=HSt.out.2.cell 0;have e1:wx.cell? ⟨g,1,none⟩=some (.slice ai d.inst.length ci):=HSt.out.2.cell 1;have el:g<wx.heap.size:=HSt.out.2.lt;have ec:wx.cell? ⟨bc,0,none⟩=some Dy:=HBc.out.cell 0;have ecl:bc<wx.heap.size:=HBc.out.lt)
         |(go_at_call 35;(with_reducible refine(HC3.out _ bc HSt.out.1 HBc.out).mono ?_);rintro e wx ⟨rfl,HBd⟩;clear e1 ec ecl;have HSt:=Hd (HStb.out _ _ HSt.out HBd);have HBc:=Hd (HBc.out.below HBd HBc.out.lt);clear HBd;clear e0 el;have e0:wx.cell? ⟨g,0,none⟩=some (.slice ar d.repos.length cr):=HSt.out.2.cell 0;have e1:wx.cell? ⟨g,1,none⟩=some (.slice ai d.inst.length ci):=HSt.out.2.cell 1;have el:g<wx.heap.size:=HSt.out.2.lt;have ec:wx.cell? ⟨bc,0,none⟩=some Dy:=HBc.out.cell 0;have ecl:bc<wx.heap.size:=HBc.out.lt)
         |(go_at_call 38;(with_reducible refine(HC1.out _ HSt.out.1).mono ?_);rintro e wx ⟨rfl,HBd⟩;clear e1 ec ecl;have HSt:=Hd (HStb.out _ _ HSt.out HBd);have HBc:=Hd (HBc.out.below HBd HBc.out.lt);clear HBd;clear e0 el;have e0:wx.cell? ⟨g,0,none⟩=some (.slice ar d.repos.length cr):=HSt.out.2.cell 0;have e1:wx.cell? ⟨g,1,none⟩=some (.slice ai d.inst.length ci):=HSt.out.2.cell 1;have el:g<wx.heap.size:=HSt.out.2.lt;have ec:wx.cell? ⟨bc,0,none⟩=some Dy:=HBc.out.cell 0;have ecl:bc<wx.heap.size:=HBc.out.lt)
         |fail)
        go_ret
        exact⟨CW HT3.out.symm,HSt.out.1⟩
theorem GC {d:AA} {e:Int} (h:A7 d=e) (he:e≠0):BR d=([],e):=by unfold BR;rw[if_neg (by rw[h];exact he),h]
theorem EO {d:AA} (h:A7 d=0) (hl:4194304<(Ep d).length):BR d=([],40):=by unfold BR;rw[if_pos h,if_neg (by omega)]
theorem GB {d:AA} (h:A7 d=0) (hl:(Ep d).length≤4194304):BR d=(Ep d,0):=by unfold BR;rw[if_pos h,if_pos hl]
theorem KN (W0:World) (d:AA) (vr vi:Value) (hd:AR Ai W0 d vr vi) (w:World) (hB:Below W0.heap.size W0 w) (hf:d.few) (hW:Bc w) (hO:Ops w):
 Calls Tryz.prog 11 #[.agg #[vr,vi]] w fun e w'=>e= .returned (.tuple #[.string ⟨(BR d).1.toArray⟩,.int .i64 (BR d).2])∧Below w.heap.size w w':=by
 have hdw:AR Ai w d vr vi:=hd.keep hB.size fun b _ h=>⟨hB.block b h,trivial⟩
 obtain⟨ar,cr,rfl⟩:=hd.repos.form
 obtain⟨ai,ci,rfl⟩:=hd.inst.form
 obtain⟨g,hg⟩:∃g,g=w.heap.size:=⟨_,rfl⟩
 obtain⟨w1,hw1⟩:∃w1,w1=w.alloc (.cells #[.slice ar d.repos.length cr,.slice ai d.inst.length ci] 41):=⟨_,rfl⟩
 have b1:Below w.heap.size w w1:=by rw[hw1];exact Ag _ _
 have k1:Blk w1 g 41 #[.slice ar d.repos.length cr,.slice ai d.inst.length ci]:=by rw[hw1,hg];exact Blk.new _ _ _
 have HSt:=Hd (show Below w.heap.size w w1∧Blk w1 g 41 #[.slice ar d.repos.length cr,.slice ai d.inst.length ci]from⟨b1,k1⟩)
 have HC:=Hd (Ie W0 d _ _ hd w1 (hB.trans (b1.mono hB.size)) hf (hW.below b1) (hO.below b1))
 have HDw:=Hd hdw
 have d0:w1.cell? ⟨g,0,none⟩=some (.slice ar d.repos.length cr):=k1.cell 0
 have d1:w1.cell? ⟨g,1,none⟩=some (.slice ai d.inst.length ci):=k1.cell 1
 have dl:g<w1.heap.size:=k1.lt
 obtain⟨ce,hce⟩:∃ce,ce=A7 d:=⟨_,rfl⟩
 rw[←hce]at HC
 have HCE:=Hd hce
 obtain⟨T,hT⟩:∃T,T=BR d:=⟨_,rfl⟩
 rw[←hT]
 have HT:=Hd hT
 clear hd hdw hB hf hW hO b1 k1 hce hT
 by_cases h0:ce=0
 ·have HOk:=Hd (show A7 d=0 by rw[←HCE.out];exact h0)
  subst h0
  go_enter Tryz.func11,Tryz.ntmps11
  go_upto_region 1 with fail
  rw[←hw1,←hg]
  have HG:=Hd hg
  clear hw1 hg
  go_upto_region 4 with (first
   |(go_at_call 15;(with_reducible refine HC.out.mono ?_);rintro e w2 ⟨rfl,hb2⟩;have HS2:=Hd (show Below w.heap.size w w2∧Blk w2 g 41 #[.slice ar d.repos.length cr,.slice ai d.inst.length ci]from⟨Aa HSt.out.1 hb2,HSt.out.2.below hb2 HSt.out.2.lt⟩);clear hb2)
   |fail)
  clear d0 d1 dl HSt HC
  have HNw:=Hd (Pe w2)
  go_upto_region 5 with (first
   |(go_at_call 27;(with_reducible refine HNw.out.mono ?_);rintro e w3 ⟨rfl,hi3,hb3⟩;have HS3:=Hd (show(Below w.heap.size w w3∧Blk w3 g 41 #[.slice ar d.repos.length cr,.slice ai d.inst.length ci])∧IsW w3 w2.heap.size nV []from⟨⟨Aa HS2.out.1 hb3,HS2.out.2.below hb3 HS2.out.2.lt⟩,hi3⟩);clear hi3 hb3)
   |fail)
  obtain⟨gw,hgw⟩:∃gw,gw=w2.heap.size:=⟨_,rfl⟩
  obtain⟨gc,hgc⟩:∃gc,gc=w3.heap.size:=⟨_,rfl⟩
  obtain⟨w4,hw4⟩:∃w4,w4=w3.alloc (.cells #[.pointer (some ⟨gw,0,none⟩),.int .i64 0] 68):=⟨_,rfl⟩
  have b4:Below w3.heap.size w3 w4:=by rw[hw4];exact Ag _ _
  have k4:Blk w4 gc 68 #[.pointer (some ⟨gw,0,none⟩),.int .i64 0]:=by rw[hw4,hgc];exact Blk.new _ _ _
  have HW4:=Hd (show AO w gc gw nV ([],0) w4 from⟨Aa HS3.out.1.1 b4,k4,by rw[hgw];exact HS3.out.2.below b4,by rw[hgc];exact HS3.out.1.1.size,by rw[hgw];exact HS2.out.1.size,fun k h=>by simp[Value.ownBlock]at h⟩)
  have hk4:Blk w4 g 41 #[.slice ar d.repos.length cr,.slice ai d.inst.length ci]:=HS3.out.1.2.below b4 HS3.out.1.2.lt
  have HD4:=Hd hk4
  have e0:w4.cell? ⟨g,0,none⟩=some (.slice ar d.repos.length cr):=hk4.cell 0
  obtain⟨q1,q2,q3,q4,q5⟩:=GO.1 HOk.out
  have HP1:=Hd (QQ w gc gw d.repos _ HDw.out.repos q3 q4 nV ([],0) w4 HW4.out)
  have HP2:=Hd (fun v st w' h=>P0 w gc gw d.inst _ HDw.out.inst q5 v st w' h)
  rw[←hgw,←hgc,←hw4]
  clear hgw hgc hw4 b4 k4 hk4 q1 q2 q3 q4 q5 HNw HS3 HS2
  go_wp2_with fail
  refine HP1.out.mono ?_
  rintro e w5 ⟨rfl,v5,st5,hs5,hr5,hc5⟩
  have hx5:=HW4.out.far hc5 HD4.out (by decide) (by decide) (by decide)
  have c1:w5.cell? ⟨g,1,none⟩=some (.slice ai d.inst.length ci):=hx5.cell 1
  have HN5:=Hd (HP2.out v5 st5 w5 hs5)
  have HR5:=Hd hr5
  clear hs5 hr5 hc5 hx5 HP1 HW4 HD4 e0 HP2
  go_wp2_with fail
  refine HN5.out.mono ?_
  rintro e w6 ⟨rfl,v6,st6,hs6,hr6,hc6⟩
  have HR6:=Hd (show AS ([],0) (Ep d) st6 from HR5.out.trans hr6)
  have HS6:=Hd hs6
  have c1':w6.cell? ⟨gc,1,none⟩=some (.int .i64 st6.2):=hs6.wb.cell 1
  have c0':w6.cell? ⟨gc,0,none⟩=some (.pointer (some ⟨gw,0,none⟩)):=hs6.wb.cell 0
  have cl':gc<w6.heap.size:=hs6.wb.lt
  have HBy:=Hd (M3 gw v6 st6.1 w6 hs6.isw)
  clear hs6 hr6 hc6 HN5 HR5 c1
  by_cases hl:(Ep d).length≤4194304
  ·have he:=HR6.out.fits rfl (by simpa using hl)
   obtain⟨sb,se⟩:=st6
   simp only[List.nil_append,Prod.mk.injEq]at he
   obtain⟨rfl,rfl⟩:=he
   have HTT:=Hd (HT.out.trans (GB HOk.out hl))
   go_wp2_with (first
    |(go_at_call 32;(with_reducible refine HBy.out.mono ?_);rintro e w7 ⟨rfl,rfl⟩)
    |fail)
   go_ret2
   exact⟨by rw[HTT.out];rfl,HS6.out.bl⟩
  ·have he:=HR6.out.not rfl (by simp;omega)
   obtain⟨sb,se⟩:=st6
   obtain rfl:se=40:=he
   have HTT:=Hd (HT.out.trans (EO HOk.out (by omega)))
   clear hl
   go_wp2_with fail
   go_quiet (fail)
   go_wp2_with fail
   go_ret2
   exact⟨by rw[HTT.out];rfl,AD HS6.out.bl _⟩
 ·have hd0:(ce==0)=false:=by simpa using h0
  have hd1:(ce !=0)=true:=by simp[bne,hd0]
  have HTT:=Hd (HT.out.trans (GC HCE.out.symm h0))
  clear h0
  go_enter Tryz.func11,Tryz.ntmps11
  go_upto_region 1 with fail
  rw[←hw1,←hg]
  have HG:=Hd hg
  clear hw1 hg
  go_wp2_with (first
   |(go_at_call 15;(with_reducible refine HC.out.mono ?_);rintro e w2 ⟨rfl,hb2⟩;have HB2:=Hd (Aa HSt.out.1 hb2);clear hb2)
   |fail)
  go_ret2
  exact⟨by rw[HTT.out];rfl,HB2.out⟩
section
variable {s:ByteArray} {a q:Nat}
theorem Qu {lo hi:Int} {n:Nat} (h:Cc lo hi s a= .ok (n,q)):lo≤(n:Int)∧(n:Int)≤hi:=by
 unfold Cc at h
 split at h
 ·next n' k hr=>
  injection h with h
  injection h with e1 _
  subst e1
  by_cases hs:a≤s.size
  ·obtain⟨_,_,_,_,a5,a6⟩:=DQ s a lo hi 9 0 0 n' k rfl (by simp) hr
   exact⟨a5,a6⟩
  ·obtain⟨_,_,_,_,a5,a6⟩:=DQ s a lo hi 9 0 0 n' k rfl (by simp) hr
   exact⟨a5,a6⟩
 ·cases h
theorem Lr {α:Type} {p:Rdr α} {Q:α→Prop} (hp:∀a x q,p s a= .ok (x,q)→Q x):∀(n a q:Nat) (l:List α),Nu p n s a= .ok (l,q)→l.length=n∧∀x∈l,Q x
 |0,a,q,l,h=>by
  injection h with h
  injection h with e1 _
  subst e1
  exact⟨rfl,fun x h=>by cases h⟩
 |n+1,a,q,l,h=>by
  obtain⟨x,r1,h1,h2⟩:=A1.1 h
  obtain⟨l2,r2,h3,h4⟩:=A1.1 h2
  injection h4 with h4
  injection h4 with e1 _
  subst e1
  obtain⟨k1,k2⟩:=Lr hp n r1 r2 l2 h3
  refine⟨by rw[List.length_cons,k1],fun y hy=> ?_⟩
  rcases List.mem_cons.1 hy with rfl|hy
  ·exact hp _ _ _ h1
  ·exact k2 y hy
theorem Jw {α:Type} {p:Rdr α} {Q:α→Prop} {lo hi:Int} (hp:∀a x q,p s a= .ok (x,q)→Q x) {l:List α} (h:Cd lo hi p s a= .ok (l,q)):lo≤(l.length:Int)∧(l.length:Int)≤hi∧∀x∈l,Q x:=by
 obtain⟨n,r1,h1,h2⟩:=A1.1 h
 obtain⟨h3,h4⟩:=Qu h1
 obtain⟨h5,h6⟩:=Lr hp n r1 q l h2
 subst h5
 exact⟨h3,h4,h6⟩
theorem Lk {f:Nat→Nat} {c:Nat}:∀n,(∀j,j<n→f j≤c)→Bz f n≤n*c
 |0,_=>by simp[Bz]
 |n+1,h=>by
  have h1:=Lk n fun j hj=>h j (by omega)
  have h2:=h n (by omega)
  show Bz f n+f n≤(n+1)*c
  rw[Nat.add_mul]
  omega
theorem M0 {k:Int} {l:List Ac} {c n:Nat} (hl:l.length≤n) (hc:∀x∈l,x.count≤c):(ofL k l).count≤1+n*c:=by
 show 1+Bz (fun j=>(l.getD j .nil).count) l.length≤_
 have h1:=Lk (f:=fun j=>(l.getD j .nil).count) (c:=c) l.length fun j hj=>by
  have:l.getD j .nil=l[j]:=by simp[List.getD,hj]
  show(l.getD j .nil).count≤c
  rw[this]
  exact hc _ (List.getElem_mem _)
 have h2:l.length*c≤n*c:=Nat.mul_le_mul_right _ hl
 omega
theorem F9:∀(m:Nat) (a:Nat) (x:Ac) (q:Nat),B7 m s a= .ok (x,q)→x.count≤25^(m+1)
 |0,a,x,q,h=>by
  obtain⟨k,r1,h1,h2⟩:=A1.1 h
  split at h2
  ·obtain⟨d,r2,h3,h4⟩:=A1.1 h2
   injection h4 with h4
   injection h4 with e1 _
   subst e1
   show 1+0≤25^1
   decide
  ·cases h2
 |m+1,a,x,q,h=>by
  obtain⟨k,r1,h1,h2⟩:=A1.1 h
  have hp:1≤25^(m+1):=Nat.one_le_pow _ _ (by decide)
  split at h2
  ·obtain⟨d,r2,h3,h4⟩:=A1.1 h2
   injection h4 with h4
   injection h4 with e1 _
   subst e1
   show 1+0≤25^(m+1)*25
   omega
  ·obtain⟨l,r2,h3,h4⟩:=A1.1 h2
   injection h4 with h4
   injection h4 with e1 _
   subst e1
   obtain⟨_,h6,h7⟩:=Jw (Q:=fun x=>x.count≤25^(m+1)) (fun a x q=>F9 m a x q) h3
   have:=M0 (k:=k) (n:=24) (by omega) h7
   show _≤25^(m+1)*25
   omega
theorem CG {x:Ac} (h:A8 s a= .ok (x,q)):∀y∈Ab x,y.count≤4611686018427387904:=by
 obtain⟨l,r2,h3,h4⟩:=A1.1 h
 injection h4 with h4
 injection h4 with e1 _
 subst e1
 rw[Bw]
 obtain⟨_,_,h7⟩:=Jw (Q:=fun x=>x.count≤25^9) (fun a x q=>F9 8 a x q) h3
 exact fun y hy=>Nat.le_trans (h7 y hy) (by decide)
theorem Kb {p:Aq} (h:Gi s a= .ok (p,q)):p.few:=by
 obtain⟨_,_,_,h⟩:=A1.1 h
 obtain⟨_,_,_,h⟩:=A1.1 h
 obtain⟨_,_,_,h⟩:=A1.1 h
 obtain⟨_,_,_,h⟩:=A1.1 h
 obtain⟨_,_,_,h⟩:=A1.1 h
 obtain⟨x1,_,f1,h⟩:=A1.1 h
 obtain⟨x2,_,f2,h⟩:=A1.1 h
 obtain⟨_,_,_,h⟩:=A1.1 h
 obtain⟨x3,_,f3,h⟩:=A1.1 h
 obtain⟨x4,_,f4,h⟩:=A1.1 h
 obtain⟨x5,_,f5,h⟩:=A1.1 h
 obtain⟨x6,_,f6,h⟩:=A1.1 h
 obtain⟨_,_,_,h⟩:=A1.1 h
 injection h with h
 injection h with e1 _
 subst e1
 intro r hr
 rcases hr with rfl|rfl|rfl|rfl|rfl|rfl
 ·exact CG f1
 ·exact CG f2
 ·exact CG f3
 ·exact CG f4
 ·exact CG f5
 ·exact CG f6
end
def fin15 (W:World) (b:Nat) (p:Aq) (r:AE):World:=
 ((((((((((((((W.setCell ⟨b,0,none⟩ (.string p.name)).setCell ⟨b,1,none⟩ (.int .i64 p.ep)).setCell ⟨b,2,none⟩ (.string p.ver)).setCell ⟨b,3,none⟩ (.string p.rel)).setCell ⟨b,4,none⟩ (.int .u8 p.arch)).setCell ⟨b,5,none⟩ (.string p.vendor)).setCell ⟨b,6,none⟩ (r.prov)).setCell ⟨b,7,none⟩ (r.req)).setCell ⟨b,8,none⟩ (r.con)).setCell ⟨b,9,none⟩ (r.obs)).setCell ⟨b,10,none⟩ (r.reco)).setCell ⟨b,11,none⟩ (r.sup)).setCell ⟨b,12,none⟩ (r.sug)).setCell ⟨b,13,none⟩ (r.enh)).setCell ⟨b,14,none⟩ (r.files)
theorem ML (W:World) (b:Nat) (p:Aq) (r:AE) (k:Nat) (hk:k≠b):(fin15 W b p r).heap[k]?=W.heap[k]?:=by
 unfold fin15
 have h:=fun(W:World) (i:Nat) (u:Value)=>Below.heap_setCell W ⟨b,i,none⟩ u k hk
 rw[h,h,h,h,h,h,h,h,h,h,h,h,h,h,h]
theorem KH (W:World) (b:Nat) (p:Aq) (r:AE):(fin15 W b p r).heap.size=W.heap.size:=by
 unfold fin15
 simp
theorem MM {W:World} {b:Nat} (h:Blk W b 29 Bq) (p:Aq) (r:AE):Blk (fin15 W b p r) b 29 (pkA p r):=
 by
 have st:∀(W:World) (cs:Array Value) (i:Nat) (v:Value),Blk W b 29 cs→Blk (W.setCell ⟨b,i,none⟩ v) b 29 (cs.setIfInBounds i v):=fun _ _ _ _ h=>h.set_ _ _
 exact st _ #[.string p.name,.int .i64 p.ep,.string p.ver,.string p.rel,.int .u8 p.arch,.string p.vendor,r.prov,r.req,r.con,r.obs,r.reco,r.sup,r.sug,r.enh,.slice none 0 0] 14 (r.files) (st _ #[.string p.name,.int .i64 p.ep,.string p.ver,.string p.rel,.int .u8 p.arch,.string p.vendor,r.prov,r.req,r.con,r.obs,r.reco,r.sup,r.sug,.slice none 0 0,.slice none 0 0] 13 (r.enh) (st _ #[.string p.name,.int .i64 p.ep,.string p.ver,.string p.rel,.int .u8 p.arch,.string p.vendor,r.prov,r.req,r.con,r.obs,r.reco,r.sup,.slice none 0 0,.slice none 0 0,.slice none 0 0] 12 (r.sug) (st _ #[.string p.name,.int .i64 p.ep,.string p.ver,.string p.rel,.int .u8 p.arch,.string p.vendor,r.prov,r.req,r.con,r.obs,r.reco,.slice none 0 0,.slice none 0 0,.slice none 0 0,.slice none 0 0] 11 (r.sup) (st _ #[.string p.name,.int .i64 p.ep,.string p.ver,.string p.rel,.int .u8 p.arch,.string p.vendor,r.prov,r.req,r.con,r.obs,.slice none 0 0,.slice none 0 0,.slice none 0 0,.slice none 0 0,.slice none 0 0] 10 (r.reco) (st _ #[.string p.name,.int .i64 p.ep,.string p.ver,.string p.rel,.int .u8 p.arch,.string p.vendor,r.prov,r.req,r.con,.slice none 0 0,.slice none 0 0,.slice none 0 0,.slice none 0 0,.slice none 0 0,.slice none 0 0] 9 (r.obs) (st _ #[.string p.name,.int .i64 p.ep,.string p.ver,.string p.rel,.int .u8 p.arch,.string p.vendor,r.prov,r.req,.slice none 0 0,.slice none 0 0,.slice none 0 0,.slice none 0 0,.slice none 0 0,.slice none 0 0,.slice none 0 0] 8 (r.con) (st _ #[.string p.name,.int .i64 p.ep,.string p.ver,.string p.rel,.int .u8 p.arch,.string p.vendor,r.prov,.slice none 0 0,.slice none 0 0,.slice none 0 0,.slice none 0 0,.slice none 0 0,.slice none 0 0,.slice none 0 0,.slice none 0 0] 7 (r.req) (st _ #[.string p.name,.int .i64 p.ep,.string p.ver,.string p.rel,.int .u8 p.arch,.string p.vendor,.slice none 0 0,.slice none 0 0,.slice none 0 0,.slice none 0 0,.slice none 0 0,.slice none 0 0,.slice none 0 0,.slice none 0 0,.slice none 0 0] 6 (r.prov) (st _ #[.string p.name,.int .i64 p.ep,.string p.ver,.string p.rel,.int .u8 p.arch,.string ⟨#[]⟩,.slice none 0 0,.slice none 0 0,.slice none 0 0,.slice none 0 0,.slice none 0 0,.slice none 0 0,.slice none 0 0,.slice none 0 0,.slice none 0 0] 5 (.string p.vendor) (st _ #[.string p.name,.int .i64 p.ep,.string p.ver,.string p.rel,.int .u8 0,.string ⟨#[]⟩,.slice none 0 0,.slice none 0 0,.slice none 0 0,.slice none 0 0,.slice none 0 0,.slice none 0 0,.slice none 0 0,.slice none 0 0,.slice none 0 0] 4 (.int .u8 p.arch) (st _ #[.string p.name,.int .i64 p.ep,.string p.ver,.string ⟨#[]⟩,.int .u8 0,.string ⟨#[]⟩,.slice none 0 0,.slice none 0 0,.slice none 0 0,.slice none 0 0,.slice none 0 0,.slice none 0 0,.slice none 0 0,.slice none 0 0,.slice none 0 0] 3 (.string p.rel) (st _ #[.string p.name,.int .i64 p.ep,.string ⟨#[]⟩,.string ⟨#[]⟩,.int .u8 0,.string ⟨#[]⟩,.slice none 0 0,.slice none 0 0,.slice none 0 0,.slice none 0 0,.slice none 0 0,.slice none 0 0,.slice none 0 0,.slice none 0 0,.slice none 0 0] 2 (.string p.ver) (st _ #[.string p.name,.int .i64 0,.string ⟨#[]⟩,.string ⟨#[]⟩,.int .u8 0,.string ⟨#[]⟩,.slice none 0 0,.slice none 0 0,.slice none 0 0,.slice none 0 0,.slice none 0 0,.slice none 0 0,.slice none 0 0,.slice none 0 0,.slice none 0 0] 1 (.int .i64 p.ep) (st _ #[.string ⟨#[]⟩,.int .i64 0,.string ⟨#[]⟩,.string ⟨#[]⟩,.int .u8 0,.string ⟨#[]⟩,.slice none 0 0,.slice none 0 0,.slice none 0 0,.slice none 0 0,.slice none 0 0,.slice none 0 0,.slice none 0 0,.slice none 0 0,.slice none 0 0] 0 (.string p.name) h))))))))))))))
section
variable {w:World} {b bx n0:Nat} {p p':Aq} {r r':AE} {g gr:Nat} {s:ByteArray} {left:Int} {a a':Nat} {e e':Int} {W W':World} {B:World→Nat→Prop}
theorem RSt.fin15 (h:RSt g gr s left a e W) (h1:b≠g) (h2:b≠gr):RSt g gr s left a e (fin15 W b p r):=by
 unfold Go.Proofs.YtdpjjnbelgaagaaGreatDoor.fin15
 have k:∀(i:Nat) (u:Value) (W:World),RSt g gr s left a e W→RSt g gr s left a e (W.setCell ⟨b,i,none⟩ u):=fun i u W h=>h.set (p:=⟨b,i,none⟩) h1 h2 u
 exact k _ _ _ (k _ _ _ (k _ _ _ (k _ _ _ (k _ _ _ (k _ _ _ (k _ _ _ (k _ _ _ (k _ _ _ (k _ _ _ (k _ _ _ (k _ _ _ (k _ _ _ (k _ _ _ (k _ _ _ h))))))))))))))
theorem I2 {F:Nat→Prop} (h:Ae F w W) (hb:w.heap.size≤b):Ae F w (fin15 W b p r):=by
 unfold fin15
 have k:∀(i:Nat) (u:Value) (W:World),Ae F w W→Ae F w (W.setCell ⟨b,i,none⟩ u):=fun i u W h=>Bh (p:=⟨b,i,none⟩) h hb u
 exact k _ _ _ (k _ _ _ (k _ _ _ (k _ _ _ (k _ _ _ (k _ _ _ (k _ _ _ (k _ _ _ (k _ _ _ (k _ _ _ (k _ _ _ (k _ _ _ (k _ _ _ (k _ _ _ (k _ _ _ h))))))))))))))
theorem Ah.far {y:Aq} {q:AE} (h:Ah (Am n0) W p r) (hb:b<n0):Ah (Am n0) (Go.Proofs.YtdpjjnbelgaagaaGreatDoor.fin15 W b y q) p r:=by
 obtain⟨U,hU⟩:∃U,U=Go.Proofs.YtdpjjnbelgaagaaGreatDoor.fin15 W b y q:=⟨_,rfl⟩
 have hs:U.heap.size=W.heap.size:=by rw[hU];exact KH _ _ _ _
 have hf:∀k,k≠b→U.heap[k]?=W.heap[k]?:=by rw[hU];exact ML _ _ _ _
 rw[←hU]
 exact h.keep (by omega) fun k ⟨k1,k2⟩ _=>⟨hf k (by omega),k1,fun i=>(World.frozen?_of_block (w:=W) (hf k (by omega))).trans (k2 i)⟩
theorem Ah.prov_ {x:List Ax} {v:Value} (h:Ah B W p r) (hl:LIn AW B W x v):Ah B W {p with prov:=x} {r with prov:=v}:=⟨h.s1,h.s2,h.s3,h.s4,h.ar,h.ep,hl,h.req,h.con,h.obs,h.reco,h.sup,h.sug,h.enh,h.files⟩
theorem Ah.req_ {x:Ac} {v:Value} (h:Ah B W p r) (hl:LIn Aj B W (Ab x) v):Ah B W {p with req:=x} {r with req:=v}:=⟨h.s1,h.s2,h.s3,h.s4,h.ar,h.ep,h.prov,hl,h.con,h.obs,h.reco,h.sup,h.sug,h.enh,h.files⟩
theorem Ah.con_ {x:Ac} {v:Value} (h:Ah B W p r) (hl:LIn Aj B W (Ab x) v):Ah B W {p with con:=x} {r with con:=v}:=⟨h.s1,h.s2,h.s3,h.s4,h.ar,h.ep,h.prov,h.req,hl,h.obs,h.reco,h.sup,h.sug,h.enh,h.files⟩
theorem Ah.obs_ {x:List Ax} {v:Value} (h:Ah B W p r) (hl:LIn AW B W x v):Ah B W {p with obs:=x} {r with obs:=v}:=⟨h.s1,h.s2,h.s3,h.s4,h.ar,h.ep,h.prov,h.req,h.con,hl,h.reco,h.sup,h.sug,h.enh,h.files⟩
theorem Ah.reco_ {x:Ac} {v:Value} (h:Ah B W p r) (hl:LIn Aj B W (Ab x) v):Ah B W {p with reco:=x} {r with reco:=v}:=⟨h.s1,h.s2,h.s3,h.s4,h.ar,h.ep,h.prov,h.req,h.con,h.obs,hl,h.sup,h.sug,h.enh,h.files⟩
theorem Ah.sup_ {x:Ac} {v:Value} (h:Ah B W p r) (hl:LIn Aj B W (Ab x) v):Ah B W {p with sup:=x} {r with sup:=v}:=⟨h.s1,h.s2,h.s3,h.s4,h.ar,h.ep,h.prov,h.req,h.con,h.obs,h.reco,hl,h.sug,h.enh,h.files⟩
theorem Ah.sug_ {x:Ac} {v:Value} (h:Ah B W p r) (hl:LIn Aj B W (Ab x) v):Ah B W {p with sug:=x} {r with sug:=v}:=⟨h.s1,h.s2,h.s3,h.s4,h.ar,h.ep,h.prov,h.req,h.con,h.obs,h.reco,h.sup,hl,h.enh,h.files⟩
theorem Ah.enh_ {x:Ac} {v:Value} (h:Ah B W p r) (hl:LIn Aj B W (Ab x) v):Ah B W {p with enh:=x} {r with enh:=v}:=⟨h.s1,h.s2,h.s3,h.s4,h.ar,h.ep,h.prov,h.req,h.con,h.obs,h.reco,h.sup,h.sug,hl,h.files⟩
theorem Ah.files_ {x:List ByteArray} {v:Value} (h:Ah B W p r) (hl:LIn A2 B W x v):Ah B W {p with files:=x} {r with files:=v}:=⟨h.s1,h.s2,h.s3,h.s4,h.ar,h.ep,h.prov,h.req,h.con,h.obs,h.reco,h.sup,h.sug,h.enh,hl⟩
structure Ba (w:World) (b bx n0:Nat) (p:Aq) (r:AE) (g gr:Nat) (s:ByteArray) (left:Int) (a:Nat) (e:Int) (W:World):Prop where
 rs:RSt g gr s left a e W
 rz:Blk W b 29 Bq
 rx:Blk W bx 29 (pkA p r)
 inn:Ah (Am n0) W p r
 tt:Ae (RF g gr) w W
 lo:w.heap.size≤b∧w.heap.size≤bx∧b<n0∧bx<n0∧n0≤W.heap.size∧g<n0∧gr<n0
 nb:b≠bx
theorem Ba.call (h:Ba w b bx n0 p r g gr s left a e W) (hr:RSt g gr s left a' e' W') (ht:Ae (RF g gr) W W'):Ba w b bx n0 p r g gr s left a' e' W':=by
 have hl:=h.lo
 have hz:=ht.size
 refine⟨hr,h.rs.far ht h.rz (by decide) (by decide),h.rs.far ht h.rx (by decide) (by decide),h.inn.keep hz fun k ⟨k1,k2⟩ k3=> ?_,h.tt.trans ht fun _ _ h=>h,⟨hl.1,hl.2.1,hl.2.2.1,hl.2.2.2.1,by omega,hl.2.2.2.2.2⟩,h.nb⟩
 have hb:=ht.block k k3 (by rintro(e|e)<;>omega)
 exact⟨hb,k1,fun i=>(World.frozen?_of_block (w:=W) hb).trans (k2 i)⟩
theorem Ba.below (h:Ba w b bx n0 p r g gr s left a e W) (hb:Below W.heap.size W W'):Ba w b bx n0 p r g gr s left a e W':=h.call (h.rs.below hb) (Ae.of_below hb _)
theorem Ba.drewN (h:Ba w b bx n0 p r g gr s left a e W) (n:Nat):Ba w b bx n0 p r g gr s left a e (W.drewN n):=h.call (h.rs.drewN n) ((Ae.refl _ _).drewN n)
theorem Ba.ne (h:Ba w b bx n0 p r g gr s left a e W):(b≠g∧b≠gr)∧bx≠g∧bx≠gr:=
 ⟨⟨h.rz.ne_ h.rs.rb (by decide),h.rz.ne_ h.rs.wr (by decide)⟩,h.rx.ne_ h.rs.rb (by decide),h.rx.ne_ h.rs.wr (by decide)⟩
theorem Ba.put (h:Ba w b bx n0 p r g gr s left a e W) (i:Nat) (v:Value) (he:pkA p' r'=(pkA p r).setIfInBounds i v) (hin:Ah (Am n0) W p' r'):Ba w b bx n0 p' r' g gr s left a e (W.setCell ⟨bx,i,none⟩ v):=by
 have hl:=h.lo
 obtain⟨_,h3,h4⟩:=h.ne
 refine⟨h.rs.set (p:=⟨bx,i,none⟩) h3 h4 v,h.rz.far h.nb v,he▸h.rx.set_ i v,hin.keep (by simp) fun k ⟨k1,k2⟩ k3=> ?_,Bh (p:=⟨bx,i,none⟩) h.tt hl.2.1 v,⟨hl.1,hl.2.1,hl.2.2.1,hl.2.2.2.1,by simp only[World.size_setCell];exact hl.2.2.2.2.1,hl.2.2.2.2.2⟩,h.nb⟩
 have hb:(W.setCell ⟨bx,i,none⟩ v).heap[k]?=W.heap[k]?:=Below.heap_setCell _ _ _ _ (by show k≠bx;omega)
 exact⟨hb,k1,fun i=>(World.frozen?_of_block (w:=W) hb).trans (k2 i)⟩
theorem Ba.done (h:Ba w b bx n0 p r g gr s left a e W):Blk (Go.Proofs.YtdpjjnbelgaagaaGreatDoor.fin15 W b p r) b 29 (pkA p r)∧Ah (Am w.heap.size) (Go.Proofs.YtdpjjnbelgaagaaGreatDoor.fin15 W b p r) p r∧RSt g gr s left a e (Go.Proofs.YtdpjjnbelgaagaaGreatDoor.fin15 W b p r)∧Ae (RF g gr) w (Go.Proofs.YtdpjjnbelgaagaaGreatDoor.fin15 W b p r):=
 ⟨MM h.rz p r,(h.inn.far h.lo.2.2.1).keep (Nat.le_refl _) fun k ⟨k1,k2⟩ _=>⟨rfl,by have:=h.lo;omega,k2⟩,h.rs.fin15 h.ne.1.1 h.ne.1.2,I2 h.tt h.lo.1⟩
end
theorem Ld (n0:Nat) (W:World) {nm:ByteArray} (h:nm.size≤64):Ah (Am n0) W ⟨nm,0,emp,emp,0,emp,[],(ofL 0 []),(ofL 0 []),[],(ofL 0 []),(ofL 0 []),(ofL 0 []),(ofL 0 []),[]⟩ ⟨nV,nV,nV,nV,nV,nV,nV,nV,nV⟩:=by
 have hr:LIn Aj (Am n0) W (Ab (ofL 0 [])) nV:=by rw[Bw];exact LIn.nil _ _ _
 have hd:LIn AW (Am n0) W [] nV:=LIn.nil _ _ _
 have hf:LIn A2 (Am n0) W [] nV:=LIn.nil _ _ _
 exact⟨show nm.size≤9223372036854775807 by omega,(by show emp.size≤9223372036854775807;decide),(by show emp.size≤9223372036854775807;decide),(by show emp.size≤9223372036854775807;decide),(by show(0:Int)≤0∧(0:Int)<256;decide),(by show(-9223372036854775808:Int)≤0∧(0:Int)≤9223372036854775807;decide),hd,hr,hr,hd,hr,hr,hr,hr,hf⟩
end Go.Proofs.YtdpjjnbelgaagaaGreatDoor
