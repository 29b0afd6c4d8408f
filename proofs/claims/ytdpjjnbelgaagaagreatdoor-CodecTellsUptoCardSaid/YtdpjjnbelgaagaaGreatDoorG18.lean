/- The laws' own helpers: large, same. Conditions: as each theorem names them. -/
import Derived.Test.YtdpjjnbelgaagaaGreatDoorG12
import Derived.Test.YtdpjjnbelgaagaaGreatDoorG17
import Derived.Test.YtdpjjnbelgaagaaGreatDoorG05
import Derived.Test.YtdpjjnbelgaagaaGreatDoorG10
import Derived.KernelRfl
import Derived.Laws.Concat
import Derived.WalkKit
import Derived.ProofKit
import Derived.OpenShut
import Derived.ShutString
import Derived.SizedLaws
import Derived.Test.YtdpjjnbelgaagaaGreatDoorG01
import Derived.Deep.Slices
import Derived.Deep.Fields
import Derived.ChangeSame
import Derived.Test.YtdpjjnbelgaagaaGreatDoorG08
import Derived.Test.YtdpjjnbelgaagaaGreatDoorG06
import Derived.Test.YtdpjjnbelgaagaaGreatDoorRows
import Derived.Great.BuildSlice
import Derived.Laws.Tables
import Derived.OwnWalk
import Derived.BigQuiet
import Derived.Deep.RegionHeld3
namespace Go.Proofs.YtdpjjnbelgaagaaGreatDoor
set_option maxHeartbeats 32000000
open Go.ChangeShapes Go.WideShapes Go.ChangeAt Go.RowKit Go.Deep
set_option maxRecDepth 100000
abbrev GT (w:World):Ending→World→Prop:=fun e w'=>(∃b:Bool,e= .returned (.bool b))∧Below w.heap.size w w'
theorem FD (d:AA) (vr vi:Value) (w:World) (hd:AR Ai w d vr vi):Calls Tryz.prog 17 #[.agg #[vr,vi]] w (GT w):=by
 obtain⟨ar,cr,rfl⟩:=hd.repos.form
 obtain⟨ai,ci,rfl⟩:=hd.inst.form
 have hn:=hd.repos.bound
 have HD:=Hd hd
 clear hd
 obtain⟨g,hg⟩:∃g,g=w.heap.size:=⟨_,rfl⟩
 obtain⟨W,hW⟩:∃W,W=w.alloc (.cells #[.slice ar d.repos.length cr,.slice ai d.inst.length ci] 41):=⟨_,rfl⟩
 have HX:=Hd (show Blk W g 41 #[.slice ar d.repos.length cr,.slice ai d.inst.length ci]∧Below w.heap.size w W from by rw[hW,hg];exact⟨Blk.new _ _ _,Ag _ _⟩)
 have d0:W.cell? ⟨g,0,none⟩=some (.slice ar d.repos.length cr):=HX.out.1.cell 0
 have d1:W.cell? ⟨g,1,none⟩=some (.slice ai d.inst.length ci):=HX.out.1.cell 1
 have dl:g<W.heap.size:=HX.out.1.lt
 have HM:=Hd (fun(l:List Aq) (v:Value) (h:LIn AN Ai w l v) (w':World) (h2:Below W.heap.size W w')=>L3 l v 3000 w w' h (Aa HX.out.2 h2))
 go_enter Tryz.func17,Tryz.ntmps17
 go_upto_region 1 with fail
 rw[←hg,←hW]
 have HG:=Hd hg
 clear hW hg
 have HM1:=Hd (HM.out d.inst _ HD.out.inst W (Below.refl _ _))
 go_upto_region 2 with (first
  |(go_at_call 39;(with_reducible refine HM1.out.mono ?_);rintro e w1 ⟨⟨q,rfl⟩,hb1⟩;have HB1:=Hd hb1;clear hb1)
  |fail)
 go_wp2_with fail
 go_loopw [3,4] (fun x i wr=>∃(k:Nat) (m:Int),k≤d.repos.length∧i= .int .i64 k∧x= .int .i64 m∧Hid (Below W.heap.size W wr)) (fun _ i _=>d.repos.length-(intOf i).toNat)
 case atStart=>exact⟨0,_,by omega,rfl,rfl,HB1.out⟩
 case round=>
  obtain⟨k,m,hk,rfl,rfl,HQ⟩:=hrel
  have hx:=HX.out.1.below HQ.out HX.out.1.lt
  have e0:wr.cell? ⟨g,0,none⟩=some (.slice ar d.repos.length cr):=hx.cell 0
  have el:g<wr.heap.size:=hx.lt
  clear hx
  by_cases hlt:k<d.repos.length
  ·have hki:(k:Int)<(d.repos.length:Int):=by omega
   by_cases hm:m<3000
   ·obtain⟨b,o,r,ha,_,hcs,hh⟩:=HD.out.repos.at_ k hlt
    obtain⟨x,hx⟩:∃x,x=d.repos[k]:=⟨_,rfl⟩
    rw[←hx]at hcs hh
    subst ha
    dsimp only[Az]at hcs hh r
    obtain⟨xa,xc,rfl⟩:=hh.2.form
    have hcs2:=hcs.below (Aa HX.out.2 HQ.out)
    have y1:wr.cell? ⟨b,o+k*2+1,none⟩=some (.slice xa x.pkgs.length xc):=hcs2.2 1 (show 1<2 by omega)
    have yl:b<wr.heap.size:=hcs2.1
    have HM2:=Hd (HM.out x.pkgs _ hh.2 wr HQ.out)
    clear hcs hcs2 hh hx
    go_wp2_with (first
     |(go_at_call 39;(with_reducible refine HM2.out.mono ?_);rintro e w1 ⟨⟨q,rfl⟩,hb1⟩;have HB2:=Hd (Aa HQ.out hb1);clear hb1)
     |fail)
    go_roundw
    case rel=>exact⟨k+1,_,by omega,by go_num,rfl,HB2.out⟩
    case measure=>simp[intOf];omega
   ·go_wp2_with fail
    go_ret
    exact⟨⟨_,rfl⟩,Aa HX.out.2 HQ.out⟩
  ·obtain rfl:k=d.repos.length:=by omega
   go_wp2_with fail
   go_ret
   exact⟨⟨_,rfl⟩,Aa HX.out.2 HQ.out⟩
open Go.ChangeShapes Go.WideShapes Go.ChangeAt Go.RowKit
def wtS (s:ByteArray):Nat:=s.size+1
def wtD (d:Ax):Nat:=wtS d.name+wtS d.ver+wtS d.rel+4
def wtR:Ac→Nat
 | .nil=>8
 | .node _ d n f=>wtD d+3+Bz (fun j=>wtR (f j)) n
def Ee (r:Ac):Nat:=1+Bz (fun j=>wtR (r.args j)) r.n
def wtL {α:Type} (g:α→Nat) (l:List α):Nat:=1+(l.map g).sum
def wtP (p:Aq):Nat:=wtS p.name+wtS p.ver+wtS p.rel+wtS p.vendor+wtL wtD p.prov+Ee p.req+Ee p.con+wtL wtD p.obs+Ee p.reco+Ee p.sup+Ee p.sug+Ee p.enh+wtL wtS p.files+4
def wtO (r:AK):Nat:=wtL wtP r.pkgs+2
def wtA (d:AA):Nat:=wtL wtO d.repos+wtL wtP d.inst+1
theorem Lh {f g:Nat→Nat}:∀n:Nat,(∀j,j<n→f j≤g j)→Bz f n≤Bz g n
 |0,_=>Nat.le_refl _
 |n+1,h=>Nat.add_le_add (Lh n fun j hj=>h j (by omega)) (h n (by omega))
theorem Li {f:Nat→Nat}:∀{n j:Nat},j<n→f j≤Bz f n
 |n+1,j,h=>by
  show f j≤Bz f n+f n
  by_cases e:j=n
  ·rw[e];omega
  ·have:=Li (f:=f) (n:=n) (j:=j) (by omega);omega
theorem J2:∀r:Ac,r.count≤wtR r
 | .nil=>by show 1≤8;omega
 | .node k d n f=>by
   show 1+Bz (fun j=>(f j).count) n≤wtD d+3+Bz (fun j=>wtR (f j)) n
   have:=Lh (f:=fun j=>(f j).count) (g:=fun j=>wtR (f j)) n fun j _=>J2 (f j)
   omega
theorem Dz {r x:Ac} (h:x∈Ab r):x.count≤Ee r:=by
 obtain⟨j,hj,rfl⟩:=List.mem_map.1 h
 have h1:=J2 (r.args j)
 have h2:=Li (f:=fun j=>wtR (r.args j)) (n:=r.n) (j:=j) (by simpa using hj)
 unfold Ee
 omega
theorem D0 {α:Type} {g:α→Nat} {l:List α} {x:α} (h:x∈l):g x≤wtL g l:=by
 induction l with
 |nil=>cases h
 |cons y l ih=>
  unfold wtL at ih ⊢
  simp only[List.map_cons,List.sum_cons]
  rcases List.mem_cons.1 h with rfl|h
  ·omega
  ·have:=ih h;omega
theorem Lu {p:Aq} (h:wtP p≤4611686018427387904):p.few:=by
 intro r hr x hx
 have h1:=Dz hx
 unfold wtP at h
 rcases hr with rfl|rfl|rfl|rfl|rfl|rfl<;>omega
theorem Ir (p:Aq):1≤wtP p:=by unfold wtP;omega
theorem Lz (l:List Aq):l.length≤(l.map wtP).sum:=by
 induction l with
 |nil=>exact Nat.le_refl _
 |cons p l ih=>
  have:=Ir p
  simp only[List.length_cons,List.map_cons,List.sum_cons]
  omega
theorem OS (l:List AK):CR l≤(l.map wtO).sum:=by
 induction l with
 |nil=>exact Nat.le_refl _
 |cons p l ih=>
  have h1:CR (p::l)=p.pkgs.length+CR l:=by simp[CR]
  have h2:wtO p=1+(p.pkgs.map wtP).sum+2:=rfl
  have h3:=Lz p.pkgs
  simp only[List.map_cons,List.sum_cons]
  omega
theorem JZ {d:AA} (h:wtA d≤4611686018427387904):d.few:=by
 have e0:wtA d=1+(d.repos.map wtO).sum+(1+(d.inst.map wtP).sum)+1:=rfl
 refine⟨fun x hx p hp=>Lu ?_,fun p hp=>Lu ?_,?_⟩
 ·have h1:=D0 (g:=wtO) hx
  have h2:=D0 (g:=wtP) hp
  have e1:wtO x=wtL wtP x.pkgs+2:=rfl
  have e2:wtL wtO d.repos=1+(d.repos.map wtO).sum:=rfl
  omega
 ·have h2:=D0 (g:=wtP) hp
  have e2:wtL wtP d.inst=1+(d.inst.map wtP).sum:=rfl
  omega
 ·have h1:=OS d.repos
  have h2:=Lz d.inst
  rw[DL]
  omega
theorem El {n:Nat} (h:n<128):(Ao n).length=1:=by rw[CH n h];rfl
theorem NF {n:Nat} (h:n<16384):(Ao n).length≤2:=IB 1 n (by omega)
theorem Qv {n:Nat} (h:n<34359738368):(Ao n).length≤5:=IB 4 n (by omega)
theorem MC {s:ByteArray} (h:s.size≤64):(AG s).length=wtS s:=by
 unfold AG wtS
 rw[List.length_append,El (by omega),Ha]
 omega
theorem QU {e:Int} {v r:ByteArray} {b:Bool} (h:En e v r b=true):(BB e v r).length≤5+wtS v+wtS r:=by
 obtain⟨h1,h2,h3,h4⟩:=EN h
 unfold BB
 have h5:=Qv (n:=e.toNat) (by omega)
 rw[List.length_append,List.length_append,MC h3,MC h4]
 omega
theorem Iq (s:ByteArray):1≤wtS s:=by unfold wtS;omega
theorem Qw {d:Ax} (h:Ca d=true):(AU d).length≤3*wtD d:=by
 unfold Ca at h
 simp only[Bool.and_eq_true]at h
 obtain⟨h1,h2,h3⟩:=h
 obtain⟨h4,h5⟩:=Lx h2
 unfold AU
 have hn:=MC (C2 h1)
 have ho:=El (n:=d.op.toNat) (by omega)
 have p1:=Iq d.ver
 have p2:=Iq d.rel
 unfold wtD
 rw[List.length_append,List.length_append,hn,ho]
 by_cases h0:d.op=0
 ·rw[if_pos h0]
  simp only[List.length_nil]
  omega
 ·rw[if_neg h0]
  rw[if_neg h0,Bool.and_eq_true]at h3
  have:=QU h3.2
  omega
theorem KA {f:Nat→List UInt8} {g:Nat→Nat}:∀n:Nat,(∀j,j<n→(f j).length≤3*g j)→(B3 f n).length≤3*Bz g n
 |0,_=>Nat.zero_le _
 |n+1,h=>by
  show(B3 f n++f n).length≤3*(Bz g n+g n)
  have h1:=KA n fun j hj=>h j (by omega)
  have h2:=h n (by omega)
  rw[List.length_append]
  omega
theorem QV {wh:Int}:(r:Ac)→∀al:Bool,B8 wh r al=true→r.count≤24→(Bk r).length≤3*wtR r
 | .nil,al,h,_=>by cases h
 | .node k d n f,al,h,hc=>by
   have ih:=fun j (_:j<n)=>QV (wh:=wh) (f j)
   replace h:(if k=1 then decide (n=0) && Ca d else(okE wh k n al && d.none) && CQ (fun j=>B8 wh (f j) (A0 k al)) n)=true:=h
   have hn:n<(Ac.node k d n f).count:=NI (.node k d n f)
   show(Ao k.toNat++if k=1 then AU d else Ao n++B3 (fun j=>Bk (f j)) n).length≤3*(wtD d+3+Bz (fun j=>wtR (f j)) n)
   rw[List.length_append]
   by_cases hk:k=1
   ·rw[if_pos hk,Bool.and_eq_true,decide_eq_true_eq]at h
    rw[if_pos hk]
    have h1:=Qw h.2
    have h2:=El (n:=k.toNat) (by omega)
    omega
   ·rw[if_neg hk,Bool.and_eq_true,Bool.and_eq_true]at h
    obtain⟨⟨h1,h2⟩,h3⟩:=h
    obtain⟨k1,k2,k3⟩:=O5 h1
    rw[if_neg hk]
    have h4:=El (n:=k.toNat) (by omega)
    have h5:=El (n:=n) (by omega)
    have h6:=KA (f:=fun j=>Bk (f j)) (g:=fun j=>wtR (f j)) n fun j hj=>by
     have hac:=Dp (r:= .node k d n f) (j:=j) hj
     simp only[Ac.args]at hac
     exact ih j hj _ (CP n|>.1 h3 j hj) (by omega)
    rw[List.length_append]
    omega
theorem Hz {wh:Int} {r:Ac} (h:Ay wh r=true):(At r).length≤3*Ee r:=by
 obtain⟨h1,h2⟩:=Ja h
 unfold At Ee
 have h3:=KA (f:=fun j=>Bk (r.args j)) (g:=fun j=>wtR (r.args j)) r.n fun j hj=>by
  obtain⟨k1,k2,k3⟩:=Jv (h2 j hj)
  exact QV _ _ k1 k3
 have h4:=El (n:=r.n) (by omega)
 rw[List.length_append]
 omega
theorem MD {α:Type} {one:α→List UInt8} {g:α→Nat} {l:List α} (hn:l.length<16384) (h:∀x∈l,(one x).length≤3*g x):(AQ one l).length≤3*wtL g l:=by
 have h1:(l.flatMap one).length≤3*(l.map g).sum:=by
  clear hn
  induction l with
  |nil=>simp
  |cons x l ih=>
   have h2:=h x (List.mem_cons_self ..)
   have h3:=ih fun y hy=>h y (List.mem_cons_of_mem _ hy)
   simp only[List.flatMap_cons,List.length_append,List.map_cons,List.sum_cons]
   omega
 unfold AQ wtL
 have h2:=NF hn
 rw[List.length_append]
 omega
theorem QW {p:Aq} (h:A9 p=true):(A4 p).length≤3*wtP p:=by
 have m:=IE h
 have h1:=MC (C2 m.name)
 have h2:=QU m.evr
 have h3:=MC m.vendor
 have h4:=El (n:=p.arch.toNat) (by have:=m.arch;omega)
 have h5:=MD (one:=AU) (g:=wtD) (l:=p.prov) (by have:=m.prov.1;omega) fun d hd=>Qw (m.prov.2 d hd)
 have h6:=MD (one:=AU) (g:=wtD) (l:=p.obs) (by have:=m.obs.1;omega) fun d hd=>Qw (m.obs.2 d hd)
 have h7:=MD (one:=AG) (g:=wtS) (l:=p.files) (by have:=m.files.1;omega) fun d hd=>by
  rw[MC (C2 (H4 (m.files.2 d hd)))]
  omega
 have r1:=Hz m.req
 have r2:=Hz m.con
 have r3:=Hz m.reco
 have r4:=Hz m.sup
 have r5:=Hz m.sug
 have r6:=Hz m.enh
 unfold A4 wtP
 simp only[List.length_append]
 omega
theorem Q9 {r:AK} (h0:0≤r.prio) (h1:r.prio≤1024) (h2:r.pkgs.all A9=true) (h3:r.pkgs.length≤256):(C9 r).length≤3*wtO r:=by
 unfold C9 wtO
 have h4:=NF (n:=r.prio.toNat) (by omega)
 have h5:=MD (one:=A4) (g:=wtP) (l:=r.pkgs) (by omega) fun p hp=>QW (List.all_eq_true.1 h2 p hp)
 rw[List.length_append]
 omega
theorem Ra {d:AA} (h:A7 d=0):(Ep d).length≤3*wtA d:=by
 obtain⟨q1,q2,q3,q4,q5⟩:=GO.1 h
 have ht:=DL d
 have h5:=MD (one:=A4) (g:=wtP) (l:=d.inst) (by omega) fun p hp=>QW (List.all_eq_true.1 q5 p hp)
 have h6:=MD (one:=C9) (g:=wtO) (l:=d.repos) (by omega) fun r hr=>by
  have k1:=List.all_eq_true.1 q3 r hr
  rw[Bool.and_eq_true,decide_eq_true_eq,decide_eq_true_eq]at k1
  have k2:r.pkgs.length≤CR d.repos:=by
   clear h5 ht q1 q2 q3 q4 q5 k1 h
   unfold CR
   generalize d.repos=l at hr
   induction l with
   |nil=>cases hr
   |cons y l ih=>
    simp only[List.map_cons,List.sum_cons]
    rcases List.mem_cons.1 hr with rfl|hr
    ·omega
    ·have:=ih hr;omega
  exact Q9 k1.1 k1.2 (List.all_eq_true.1 q4 r hr) (by omega)
 unfold Ep wtA
 rw[List.length_append]
 omega
theorem D5 {α:Type} {f:α→α→Bool} {g:α→α} (h:∀x,f (g x) x=true):∀l:List α,eqL f (l.map g) l=true
 | []=>rfl
 |x::l=>by
  show(f (g x) x && eqL f (l.map g) l)=true
  rw[h,D5 h l]
  rfl
theorem JR {α:Type} {f:α→α→Bool} (h:∀x,f x x=true) (l:List α):eqL f l l=true:=by
 have:=D5 (g:=id) h l
 rwa [List.map_id]at this
theorem Ot (d:Ax):Ar d d=true:=EU rfl rfl rfl rfl rfl
theorem K9 (r:Ac):eqL As (Ab (FC r)) (Ab r)=true:=by
 unfold FC
 rw[Bw]
 exact D5 Hf _
theorem F7 (p:Aq):Ak (Ly p) p=true:=by
 unfold Ak
 simp only[Ly,decide_true,K9,JR Ot,JR (f:=eqT) (fun x=>decide_eq_true rfl),Bool.and_true]
theorem Ki (r:AK):Bf (NG r) r=true:=by
 unfold Bf
 simp only[NG,decide_true,Bool.true_and,D5 F7]
theorem F8 (d:AA):Bm (P8 d) d=true:=by
 unfold Bm
 simp only[P8,D5 F7,D5 Ki,Bool.and_true]
def FM:Ac:=ofL 0 []
abbrev Bg:Value:= .slice none 0 0
abbrev DF:AE:=⟨Bg,Bg,Bg,Bg,Bg,Bg,Bg,Bg,Bg⟩
theorem NZ {d:AA} {vr vi:Value} {b:List UInt8} {e:Int} (he:BR d=(b,e)) (hw:wtA d≤4611686018427387904) (w:World) (hd:AR Ai w d vr vi) (hW:Bc w) (hO:Ops w):
 Calls Tryz.prog 11 #[.agg #[vr,vi]] w fun r w'=>r= .returned (.tuple #[.string ⟨b.toArray⟩,.int .i64 e])∧Below w.heap.size w w':=by
 have h:=KN w d vr vi hd w (Below.refl _ _) (JZ hw) hW hO
 rw[he]at h
 exact h
section
variable {H:Type} {enc:TypeId×Value→H}
theorem G9 {P:Program} (hl:laidOutB P=true) {W W':World} (hb:Below W.heap.size W W'):
 ∀(ts:List TypeId) (vs:List Value) (ds:List (DataW H)) (ps:List MemPlace),ts.all (fun t=>P.readableRec t && decide (t<P.types.size))=true→
  DataW.TrodAll enc P W 0 (fun _=>true) true ts vs ds ps→(∀x∈ps,x.block<W.heap.size)→
  DataW.TrodAll enc P W' 0 (fun b=>decide (b<W.heap.size)) true ts vs ds ps
 | [],vs,ds,ps,_,h,_=>by
   obtain⟨rfl,rfl,rfl⟩:=trodAll_nil h
   rfl
 |t::ts,vs,ds,ps,hr,h,hlt=>by
  obtain⟨v,vs',d,ds',p,q,rfl,rfl,rfl,h0,h1⟩:=trodAll_cons h
  simp only[List.all_cons,Bool.and_eq_true,decide_eq_true_eq]at hr
  exact trodAll_cons_mk (Below.trod hl hr.1.1 hr.1.2 h0 hb fun x hx=>hlt x (List.mem_append_left _ hx))
   (G9 hl hb ts vs' ds' q (by simpa using hr.2) h1 fun x hx=>hlt x (List.mem_append_right _ hx))
end
section
variable {H:Type} {enc:TypeId×Value→H} {P:Program} {w:World} {base:Nat} {spare:Nat→Bool} {held:Bool}
def Fit (P:Program) (t:TypeId) (d:DataW H):Prop:=∀x∈d.weights P t,x≤reachBytes
theorem JO:∀(ts:List TypeId) (ds:List (DataW H)),(DataW.weightsEach P ts ds).all (·≤reachBytes)=true→∀(j:Nat) t d,ts[j]?=some t→ds[j]?=some d→Fit P t d
 | [],_,_,j,t,d,ht,_=>by simp at ht
 |_::_,[],_,j,t,d,_,hd=>by simp at hd
 |t::ts,d::ds,h,0,t',d',ht,hd=>by
  simp only[List.getElem?_cons_zero,Option.some.injEq]at ht hd
  subst ht hd
  intro x hx
  rw[List.all_eq_true]at h
  exact of_decide_eq_true (h x (by simp only[DataW.weightsEach,List.mem_append];exact .inl hx))
 |t::ts,d::ds,h,j+1,t',d',ht,hd=>by
  refine JO ts ds ?_ j t' d' (by simpa using ht) (by simpa using hd)
  rw[List.all_eq_true]at h ⊢
  exact fun x hx=>h x (by simp only[DataW.weightsEach,List.mem_append];exact .inr hx)
theorem Fm {e:TypeId}:∀(l:List (DataW H)) (d:DataW H),d∈l→∀x∈d.weights P e,x∈DataW.weightsAll P e l
 | [],d,hd,_,_=>by cases hd
 |a::l,d,hd,x,hx=>by
  simp only[DataW.weightsAll,List.mem_append]
  rcases List.mem_cons.1 hd with rfl|h
  ·exact .inl hx
  ·exact .inr (Fm l d h x hx)
theorem Fit.slice {t e:TypeId} {elems spare:List (DataW H)} (h:Fit P t (.slice elems spare)) (hu:P.underlying t=some (.slice e)):(elems.length+spare.length)*P.bytesOf e≤reachBytes∧∀d∈elems,Fit P e d:=by
 have hw:(DataW.slice elems spare).weights P t=(elems.length+spare.length)*P.bytesOf e::(DataW.weightsAll P e elems++DataW.weightsAll P e spare):=by simp[DataW.weights,hu]
 refine⟨h _ (by rw[hw];simp),fun d hd x hx=>h x ?_⟩
 rw[hw]
 exact List.mem_cons_of_mem _ (List.mem_append_left _ (Fm elems d hd x hx))
theorem NV:∀(ts:List TypeId) (ds:List (DataW H)),(∀x∈DataW.weightsEach P ts ds,x≤reachBytes)→∀(j:Nat) t d,ts[j]?=some t→ds[j]?=some d→Fit P t d:=fun ts ds h j t d ht hd=>
 JO ts ds (by rw[List.all_eq_true];exact fun x hx=>decide_eq_true (h x hx)) j t d ht hd
theorem Fit.struct {t:TypeId} {fs:Array Field} {parts:List (DataW H)} (h:Fit P t (.agg parts)) (hu:P.underlying t=some (.struct fs)) (j:Nat) (f:Field) (d:DataW H) (hf:fs[j]?=some f) (hd:parts[j]?=some d):Fit P f.type d:=by
 have hw:(DataW.agg parts).weights P t=DataW.weightsEach P (fs.toList.map (·.type)) parts:=by simp[DataW.weights,hu]
 refine NV (fs.toList.map (·.type)) parts (fun x hx=>h x (by rw[hw];exact hx)) j f.type d ?_ hd
 simp[hf]
theorem Fit.string {t:TypeId} {bs:List UInt8} (h:Fit P t (DataW.lit (H:=H) (.string bs))):bs.length≤140737488351232:=by
 have:=h bs.length (by simp[DataW.weights])
 simpa [reachBytes]using this
theorem IW {a:Addr} {v:Value} (h:w.cell? (a.add 0)=some v):∃b off,a=⟨b,off,none⟩∧b<w.heap.size:=by
 obtain⟨b,off,spot⟩:=a
 have ha:(⟨b,off,spot⟩:Addr).add 0=⟨b,off,spot⟩:=rfl
 rw[ha]at h
 unfold World.cell? at h
 cases hb:w.heap[b]? with
 |none=>simp[hb]at h
 |some o=>
  have hlt:b<w.heap.size:=(Array.getElem?_eq_some_iff.1 hb).1
  cases spot with
  |none=>exact⟨b,off,rfl,hlt⟩
  |some s=>cases o<;>simp[hb]at h
theorem Fk (b off j:Nat):(⟨b,off,none⟩:Addr).add j=⟨b,off+j,none⟩:=by unfold Addr.add;split<;>simp_all
end
theorem c28:Tryz.prog.cellsOf 34=7:=by kernel_rfl
theorem c25:Tryz.prog.cellsOf 32=5:=by kernel_rfl
theorem c23:Tryz.prog.cellsOf 24=3:=by kernel_rfl
theorem c26:Tryz.prog.cellsOf 26=1:=by kernel_rfl
theorem c9:Tryz.prog.cellsOf 9=1:=by kernel_rfl
theorem c5:Tryz.prog.cellsOf 5=1:=by kernel_rfl
theorem c3:Tryz.prog.cellsOf 3=1:=by kernel_rfl
theorem Do {H:Type}:∀l:List (DataW H),Rows.uptoBulkAll l=(l.map Rows.uptoBulk).sum
 | []=>by simp[Rows.uptoBulkAll]
 |d::l=>by simp[Rows.uptoBulkAll,Do l]
theorem Cf {H:Type} (l:List (DataW H)):Rows.uptoBulk (.agg l)=(l.map Rows.uptoBulk).sum+1:=by rw[Rows.uptoBulk,Do]
theorem OB {H:Type} (d:DataW H):1≤Rows.uptoBulk d:=by
 cases d with
 |lit l=>cases l<;>simp[Rows.uptoBulk]
 |nil=>simp[Rows.uptoBulk]
 |ptr d=>simp[Rows.uptoBulk]
 |slice elems spare=>simp[Rows.uptoBulk]
 |agg parts=>simp[Rows.uptoBulk]
 |iface t d=>simp[Rows.uptoBulk]
 |map entries=>simp[Rows.uptoBulk]
 |held h=>simp[Rows.uptoBulk]
theorem OA {H:Type} (s:ByteArray):Rows.uptoBulk (DataW.lit (H:=H) (.string s.data.toList))=wtS s:=by
 rw[Rows.uptoBulk,Ha]
 rfl
section
variable {H:Type} {enc:TypeId×Value→H} {W:World} {base:Nat} {spare:Nat→Bool} {held:Bool}
theorem Nb:∀(ys:List Nat) (xs:List Nat),xs.length=ys.length→(∀j (h1:j<xs.length) (h2:j<ys.length),xs[j]≤ys[j])→xs.sum≤ys.sum
 | [],[],_,_=>Nat.le_refl _
 |y::ys,x::xs,hl,h=>by
  simp only[List.sum_cons]
  have h1:=h 0 (by simp) (by simp)
  have h2:=Nb ys xs (by simpa using hl) fun j k1 k2=>h (j+1) (by simpa using k1) (by simpa using k2)
  simp only[List.getElem_cons_zero]at h1
  omega
theorem Lf:∀{l:List Nat} {x:Nat},x∈l→x≤l.sum
 |y::l,x,h=>by
  simp only[List.sum_cons]
  rcases List.mem_cons.1 h with rfl|h
  ·omega
  ·have:=Lf h;omega
theorem Lg:∀l:List Nat,(∀x∈l,1≤x)→l.length≤l.sum
 | [],_=>Nat.le_refl _
 |y::l,h=>by
  have h1:=h y (List.mem_cons_self ..)
  have h2:=Lg l fun x hx=>h x (List.mem_cons_of_mem _ hx)
  simp only[List.sum_cons,List.length_cons]
  omega
theorem C0 {α:Type} (K:Kd α) (wt:α→Nat) (T t:TypeId) (hu:Tryz.prog.underlying T=some (.slice t)) (hk:Tryz.prog.cellsOf t=K.size) (hK:0<K.size) (dx:α) (dr:K.R) (fuel:Nat)
 (hel:∀p,p<fuel→∀(cs:List Value) (y:DataW H×List MemPlace),DataW.trod enc Tryz.prog W base spare held p t cs=some y→Rows.uptoBulk y.1≤1048576→∃x r,cs=K.cells x r∧K.holds Ai W x r∧wt x≤Rows.uptoBulk y.1)
 (c:Value) (y:DataW H×List MemPlace) (h:DataW.trod enc Tryz.prog W base spare held fuel T [c]=some y) (hb:Rows.uptoBulk y.1≤1048576):∃l,LIn K Ai W l c∧wtL wt l≤Rows.uptoBulk y.1:=by
 rcases DataW.trod_slice hu h with ⟨h3,rfl⟩|⟨a,len,cap,elems,rest,p,hp,h3,rfl,_,_,hcm,hl,hi,_⟩
 ·obtain rfl:c= .slice none 0 0:=by simpa using h3
  exact⟨[],LIn.nil _ _ _,by simp[wtL,Rows.uptoBulk]⟩
 ·obtain rfl:c= .slice (some a) len cap:=by simpa using h3
  have hsum:(elems.map fun e=>Rows.uptoBulk e.1).sum+1≤1048576:=by
   rw[Rows.uptoBulk,Do,Do,List.map_map]at hb
   have e2:(Rows.uptoBulk ∘ fun x:DataW H×List MemPlace=>x.1)=fun e=>Rows.uptoBulk e.1:=rfl
   rw[e2]at hb
   omega
  have hle:∀j (hj:j<elems.length),Rows.uptoBulk elems[j].1≤1048576:=fun j hj=>by
   have:=Lf (l:=elems.map fun e=>Rows.uptoBulk e.1) (x:=Rows.uptoBulk elems[j].1) (List.mem_map.2 ⟨_,List.getElem_mem hj,rfl⟩)
   omega
  have hlb:len≤1048576:=by
   have:=Lg (elems.map fun e=>Rows.uptoBulk e.1) fun x hx=>by
    obtain⟨e,_,rfl⟩:=List.mem_map.1 hx
    exact OB _
   rw[List.length_map]at this
   omega
  have hone:∀j (hj:j<len),∃x r,W.cells? base (a.add (j*Tryz.prog.cellsOf t)) (Tryz.prog.cellsOf t)=some (K.cells x r)∧K.holds Ai W x r∧wt x≤Rows.uptoBulk (elems[j]'(by omega)).1:=fun j hj=>by
   have h5:=hi j hj
   rw[List.getElem?_eq_getElem (by omega)]at h5
   obtain⟨cs',hc,ht⟩:=Option.bind_eq_some_iff.1 h5
   obtain⟨x,r,rfl,hr,hw⟩:=hel p (by omega) _ _ ht (hle j (by omega))
   exact⟨x,r,hc,hr,hw⟩
  have hpl:0<len→∃b o,a=⟨b,o,none⟩:=fun h0=>by
   obtain⟨x,r,hc,_⟩:=hone 0 h0
   obtain⟨_,hcl,hat⟩:=World.cells?_some hc
   have a0:=hat 0 (by omega)
   obtain⟨v,hv⟩:∃v,(K.cells x r)[0]?=some v:=⟨_,List.getElem?_eq_getElem (by rw[K.len];exact hK)⟩
   rw[hv]at a0
   obtain⟨b,off,h7,_⟩:=IW a0
   rw[Nat.zero_mul]at h7
   exact⟨b,off,h7⟩
  have hall:∀j:Nat,∃xr:α×K.R,∀hj:j<len,(∃b o,some a=some ⟨b,o,none⟩∧AX W b (o+j*K.size) (K.cells xr.1 xr.2))∧K.holds Ai W xr.1 xr.2∧wt xr.1≤Rows.uptoBulk (elems[j]'(by omega)).1:=fun j=>by
   by_cases hj:j<len
   ·obtain⟨x,r,hc,hr,hw⟩:=hone j hj
    obtain⟨_,hcl,hat⟩:=World.cells?_some hc
    refine⟨(x,r),fun _=>⟨?_,hr,hw⟩⟩
    obtain⟨b,o,rfl⟩:=hpl (by omega)
    have k:∀i,i<K.size→W.cell? ⟨b,o+j*K.size+i,none⟩=(K.cells x r)[i]?:=fun i hi=>by
     have h6:=hat i (by omega)
     rw[Fk,Fk,hk]at h6
     exact h6
    obtain⟨v,hv⟩:∃v,(K.cells x r)[0]?=some v:=⟨_,List.getElem?_eq_getElem (by rw[K.len];exact hK)⟩
    have k0:=k 0 hK
    rw[hv]at k0
    exact⟨b,o,rfl,FY k0,fun i hi=>k i (by rw[K.len]at hi;exact hi)⟩
   ·exact⟨(dx,dr),fun h=>absurd h hj⟩
  obtain⟨F,hF⟩:=Classical.axiomOfChoice hall
  have hlen:((List.range len).map fun j=>(F j).1).length=len:=by simp
  refine⟨(List.range len).map fun j=>(F j).1,⟨some a,cap,by rw[hlen],by rw[hlen];omega,fun j hj=> ?_⟩,?_⟩
  ·have hj':j<len:=by rw[hlen]at hj;exact hj
   obtain⟨⟨b,o,h7,h8⟩,h9,_⟩:=hF j hj'
   refine⟨b,o,(F j).2,h7,trivial,?_,?_⟩
   ·simpa using h8
   ·simpa using h9
  ·have hs:=Nb (elems.map fun e=>Rows.uptoBulk e.1) ((List.range len).map fun j=>wt (F j).1) (by simp[hl]) fun j h1 h2=>by
    have hj':j<len:=by simpa using h1
    have:=(hF j hj').2.2
    simpa using this
   unfold wtL
   rw[Rows.uptoBulk,Do,Do,List.map_map,List.map_map,List.map_map]
   have e1:(wt ∘ fun j=>(F j).1)=fun j=>wt (F j).1:=rfl
   have e2:(Rows.uptoBulk ∘ fun x:DataW H×List MemPlace=>x.1)=fun e=>Rows.uptoBulk e.1:=rfl
   rw[e1,e2]
   omega
theorem c3':Tryz.prog.cellsOf 29=15:=by kernel_rfl
theorem cDs:Tryz.prog.cellsOf 25=1:=by kernel_rfl
theorem cSs:Tryz.prog.cellsOf 27=1:=by kernel_rfl
theorem cPs:Tryz.prog.cellsOf 36=1:=by kernel_rfl
theorem cRo:Tryz.prog.cellsOf 38=2:=by kernel_rfl
theorem Ri:Tryz.prog.cellsOf 39=1:=by kernel_rfl
theorem Rj:Tryz.prog.cellsOf 41=2:=by kernel_rfl
theorem Dh (fuel:Nat) (cs:List Value) (y:DataW H×List MemPlace) (h:DataW.trod enc Tryz.prog W base spare held fuel 9 cs=some y):∃x,cs= [.string x]∧x.size≤9223372036854775807∧wtS x=Rows.uptoBulk y.1:=by
 obtain⟨s,hs,hx,hm⟩:=DataW.trod_string Tryz.underlying9 h
 simp only[maxLen]at hm
 exact⟨s,hs,by omega,by rw[hx];exact(OA s).symm⟩
theorem Jp (fuel:Nat) (cs:List Value) (y:DataW H×List MemPlace) (h:DataW.trod enc Tryz.prog W base spare held fuel 24 cs=some y):
 ∃(ep:Int) (v r:ByteArray),cs= [.int .i64 ep,.string v,.string r]∧(-9223372036854775808≤ep∧ep≤9223372036854775807)∧v.size≤9223372036854775807∧r.size≤9223372036854775807∧wtS v+wtS r+2=Rows.uptoBulk y.1:=by
 obtain⟨us,q,rfl,hy,hl,hul,hu⟩:=DataW.trod_struct Tryz.underlying24 h
 rw[c23]at hl
 match cs,hl with
 | [c3,c4,c5],_=>
   match us,hul with
   | [u0,u1,u2],_=>
     have k0:DataW.trod enc Tryz.prog W base spare held q 3 [c3]=some u0:=by simpa [Go.Proofs.YtdpjjnbelgaagaaGreatDoor.c3]using hu 0 _ rfl
     have k1:DataW.trod enc Tryz.prog W base spare held q 9 [c4]=some u1:=by simpa [c9]using hu 1 _ rfl
     have k2:DataW.trod enc Tryz.prog W base spare held q 9 [c5]=some u2:=by simpa [c9]using hu 2 _ rfl
     obtain⟨ep,hep,he0,hew⟩:=DataW.trod_int Tryz.underlying3 k0
     obtain⟨v,hv,hv2,hv3⟩:=Dh _ _ _ k1
     obtain⟨r,hr,hr2,hr3⟩:=Dh _ _ _ k2
     have h4: -9223372036854775808≤ep∧ep≤9223372036854775807:=by
      have h4:=hew
      simp[Lit.wf,IntKind.min,IntKind.max,IntKind.signed,IntKind.bits]at h4
      omega
     simp only[List.cons.injEq,and_true]at hep hv hr
     subst hep hv hr
     have e0:Rows.uptoBulk u0.1=1:=by rw[he0];simp[Rows.uptoBulk]
     refine⟨ep,v,r,rfl,h4,hv2,hr2,?_⟩
     rw[hy]
     simp only[List.map_cons,List.map_nil,Cf,List.sum_cons,List.sum_nil]
     omega
theorem Jq (fuel:Nat) (cs:List Value) (y:DataW H×List MemPlace) (h:DataW.trod enc Tryz.prog W base spare held fuel 32 cs=some y):
 ∃d:Ax,cs=d.cs∧(d.fit∧0≤d.op∧d.op<256)∧wtD d=Rows.uptoBulk y.1:=by
 obtain⟨zs,m,rfl,hy,hl,hzl,hg⟩:=DataW.trod_struct Tryz.underlying32 h
 rw[c25]at hl
 match cs,hl with
 | [c1,c2,c3,c4,c5],_=>
   match zs,hzl with
   | [z0,z1,z2],_=>
     have g0:DataW.trod enc Tryz.prog W base spare held m 9 [c1]=some z0:=by simpa [c9]using hg 0 _ rfl
     have g1:DataW.trod enc Tryz.prog W base spare held m 5 [c2]=some z1:=by simpa [Go.Proofs.YtdpjjnbelgaagaaGreatDoor.c5]using hg 1 _ rfl
     have g2:DataW.trod enc Tryz.prog W base spare held m 24 [c3,c4,c5]=some z2:=by simpa [c23]using hg 2 _ rfl
     clear hg
     obtain⟨nm,hnm,hns,hnw⟩:=Dh _ _ _ g0
     obtain⟨op,hop,ho0,how⟩:=DataW.trod_int Tryz.underlying5 g1
     obtain⟨ep,ve,re,he,_,hvs,hrs,hew⟩:=Jp _ _ _ g2
     have h3:0≤op∧op<256:=by
      have h4:=how
      simp[Lit.wf,IntKind.min,IntKind.max,IntKind.signed,IntKind.bits]at h4
      omega
     simp only[List.cons.injEq,and_true]at hnm hop he
     obtain⟨rfl,rfl,rfl⟩:=he
     subst hnm hop
     have e0:Rows.uptoBulk z1.1=1:=by rw[ho0];simp[Rows.uptoBulk]
     refine⟨⟨nm,op,ep,ve,re⟩,rfl,⟨⟨hns,hvs,hrs⟩,h3.1,h3.2⟩,?_⟩
     rw[hy]
     simp only[List.map_cons,List.map_nil,Cf,List.sum_cons,List.sum_nil,wtD]
     omega
theorem I4 {g:Ac→Nat}:∀l:List Ac,Bz (fun j=>g (l.getD j .nil)) l.length=(l.map g).sum:=by
 intro l
 have h:∀n,n≤l.length→Bz (fun j=>g (l.getD j .nil)) n=((l.take n).map g).sum:=by
  intro n
  induction n with
  |zero=>intro _;simp[Bz]
  |succ n ih=>
   intro hn
   show Bz _ n+g (l.getD n .nil)=_
   have hn':n<l.length:=by omega
   rw[ih (by omega),List.take_succ_eq_append_getElem hn',List.map_append,List.sum_append,List.getD_eq_getElem?_getD,List.getElem?_eq_getElem hn']
   simp
 have:=h l.length (Nat.le_refl _)
 rwa [List.take_length]at this
theorem Qh (k:Int) (l:List Ac):Ee (ofL k l)=wtL wtR l:=by
 unfold Ee wtL
 rw[←I4]
 rfl
theorem Ky:∀(fuel:Nat) (cs:List Value) (y:DataW H×List MemPlace),DataW.trod enc Tryz.prog W base spare held fuel 34 cs=some y→Rows.uptoBulk y.1≤1048576→∃r s,cs=AM r s∧AZ Ai W r s∧wtR r≤Rows.uptoBulk y.1:=by
 intro fuel
 induction fuel using Nat.strongRecOn with
 |_ fuel ih=>
  intro cs y h hb
  obtain⟨xs,n,hfu,hx,hl,hlen,hf⟩:=DataW.trod_struct Tryz.underlying34 h
  rw[c28]at hl
  match cs,hl with
  | [c0,c1,c2,c3,c4,c5,c6],_=>
    match xs,hlen with
    | [x0,x1,x2],_=>
      have h0:DataW.trod enc Tryz.prog W base spare held n 5 [c0]=some x0:=by simpa [Go.Proofs.YtdpjjnbelgaagaaGreatDoor.c5]using hf 0 _ rfl
      have h1:DataW.trod enc Tryz.prog W base spare held n 32 [c1,c2,c3,c4,c5]=some x1:=by simpa [c25]using hf 1 _ rfl
      have h2:DataW.trod enc Tryz.prog W base spare held n 26 [c6]=some x2:=by simpa [c26]using hf 2 _ rfl
      clear hf h
      rw[hx]at hb
      simp only[List.map_cons,List.map_nil,Cf,List.sum_cons,List.sum_nil]at hb
      obtain⟨kd,hk,hk0,hkw⟩:=DataW.trod_int Tryz.underlying5 h0
      obtain rfl:c0= .int .u8 kd:=by simpa using hk
      obtain⟨d,hd,hdf,hdw⟩:=Jq _ _ _ h1
      obtain⟨l,hli,hlw⟩:=C0 Aj wtR 26 34 Tryz.underlying26 c28 (by show 0<7;omega) .nil nV n (fun p hp cs y h hb=>ih p (by omega) cs y h hb) c6 x2 h2 (by omega)
      have h3:0≤kd∧kd<256:=by
       have h4:=hkw
       simp[Lit.wf,IntKind.min,IntKind.max,IntKind.signed,IntKind.bits]at h4
       omega
      have hal:Ab (.node kd d l.length fun j=>l.getD j .nil)=l:=Bw kd l
      have e0:Rows.uptoBulk x0.1=1:=by rw[hk0];simp[Rows.uptoBulk]
      simp only[Ax.cs,List.cons.injEq,and_true]at hd
      obtain⟨rfl,rfl,rfl,rfl,rfl⟩:=hd
      refine⟨.node kd d l.length fun j=>l.getD j .nil,c6,rfl,(show LIn Aj Ai W (Ab (.node kd d l.length fun j=>l.getD j .nil)) c6 from by rw[hal];exact hli).args ⟨hdf.1,h3.1,h3.2⟩,?_⟩
      rw[hx]
      have e1:wtR (.node kd d l.length fun j=>l.getD j .nil)=wtD d+3+(l.map wtR).sum:=by
       rw[←I4]
       rfl
      unfold wtL at hlw
      simp only[List.map_cons,List.map_nil,Cf,List.sum_cons,List.sum_nil]
      omega
theorem Hx (fuel:Nat) (c:Value) (y:DataW H×List MemPlace) (h:DataW.trod enc Tryz.prog W base spare held fuel 25 [c]=some y) (hb:Rows.uptoBulk y.1≤1048576):∃l,LIn AW Ai W l c∧wtL wtD l≤Rows.uptoBulk y.1:=
 C0 AW wtD 25 32 Tryz.underlying25 c25 (by show 0<5;omega) EI () fuel (fun p _ cs y h _=>by
  obtain⟨d,h1,h2,h3⟩:=Jq p cs y h
  exact⟨d,(),h1,h2,by omega⟩) c y h hb
theorem Mt (fuel:Nat) (c:Value) (y:DataW H×List MemPlace) (h:DataW.trod enc Tryz.prog W base spare held fuel 27 [c]=some y) (hb:Rows.uptoBulk y.1≤1048576):∃l,LIn A2 Ai W l c∧wtL wtS l≤Rows.uptoBulk y.1:=
 C0 A2 wtS 27 9 Tryz.underlying27 c9 (by show 0<1;omega) emp () fuel (fun p _ cs y h _=>by
  obtain⟨d,h1,h2,h3⟩:=Dh p cs y h
  exact⟨d,(),h1,h2,by omega⟩) c y h hb
theorem Ct (fuel:Nat) (c:Value) (y:DataW H×List MemPlace) (h:DataW.trod enc Tryz.prog W base spare held fuel 26 [c]=some y) (hb:Rows.uptoBulk y.1≤1048576):∃r,LIn Aj Ai W (Ab r) c∧Ee r≤Rows.uptoBulk y.1:=by
 obtain⟨l,h1,h2⟩:=C0 Aj wtR 26 34 Tryz.underlying26 c28 (by show 0<7;omega) .nil nV fuel (fun p _ cs y h hb=>Ky p cs y h hb) c y h hb
 exact⟨ofL 0 l,by rw[Bw];exact h1,by rw[Qh];exact h2⟩
theorem NA (fuel:Nat) (cs:List Value) (y:DataW H×List MemPlace) (h:DataW.trod enc Tryz.prog W base spare held fuel 29 cs=some y) (hb:Rows.uptoBulk y.1≤1048576):∃p r,cs=CC p r∧Ah Ai W p r∧wtP p≤Rows.uptoBulk y.1:=by
 obtain⟨zs,m,rfl,hy,hl,hzl,hg⟩:=DataW.trod_struct Tryz.underlying29 h
 rw[c3']at hl
 match cs,hl with
 | [k0,k1,k2,k3,k4,k5,k6,k7,k8,k9,k10,k11,k12,k13,k14],_=>
   match zs,hzl with
   | [z0,z1,z2,z3,z4,z5,z6,z7,z8,z9,z10,z11,z12],_=>
     have g0:DataW.trod enc Tryz.prog W base spare held m 9 [k0]=some z0:=by simpa [c9]using hg 0 _ rfl
     have g1:DataW.trod enc Tryz.prog W base spare held m 24 [k1,k2,k3]=some z1:=by simpa [c23]using hg 1 _ rfl
     have g2:DataW.trod enc Tryz.prog W base spare held m 5 [k4]=some z2:=by simpa [c5]using hg 2 _ rfl
     have g3:DataW.trod enc Tryz.prog W base spare held m 9 [k5]=some z3:=by simpa [c9]using hg 3 _ rfl
     have g4:DataW.trod enc Tryz.prog W base spare held m 25 [k6]=some z4:=by simpa [cDs]using hg 4 _ rfl
     have g5:DataW.trod enc Tryz.prog W base spare held m 26 [k7]=some z5:=by simpa [c26]using hg 5 _ rfl
     have g6:DataW.trod enc Tryz.prog W base spare held m 26 [k8]=some z6:=by simpa [c26]using hg 6 _ rfl
     have g7:DataW.trod enc Tryz.prog W base spare held m 25 [k9]=some z7:=by simpa [cDs]using hg 7 _ rfl
     have g8:DataW.trod enc Tryz.prog W base spare held m 26 [k10]=some z8:=by simpa [c26]using hg 8 _ rfl
     have g9:DataW.trod enc Tryz.prog W base spare held m 26 [k11]=some z9:=by simpa [c26]using hg 9 _ rfl
     have g10:DataW.trod enc Tryz.prog W base spare held m 26 [k12]=some z10:=by simpa [c26]using hg 10 _ rfl
     have g11:DataW.trod enc Tryz.prog W base spare held m 26 [k13]=some z11:=by simpa [c26]using hg 11 _ rfl
     have g12:DataW.trod enc Tryz.prog W base spare held m 27 [k14]=some z12:=by simpa [cSs]using hg 12 _ rfl
     clear hg h
     rw[hy]at hb
     simp only[List.map_cons,List.map_nil,Cf,List.sum_cons,List.sum_nil]at hb
     obtain⟨nm,e0,s0,w0⟩:=Dh _ _ _ g0
     obtain⟨ep,ve,re,e1,s1,s2,s3,w1⟩:=Jp _ _ _ g1
     obtain⟨ar,e2,a0,aw⟩:=DataW.trod_int Tryz.underlying5 g2
     obtain⟨vd,e3,s4,w3⟩:=Dh _ _ _ g3
     obtain⟨pv,l4,w4⟩:=Hx _ _ _ g4 (by omega)
     obtain⟨rq,l5,w5⟩:=Ct _ _ _ g5 (by omega)
     obtain⟨cn,l6,w6⟩:=Ct _ _ _ g6 (by omega)
     obtain⟨ob,l7,w7⟩:=Hx _ _ _ g7 (by omega)
     obtain⟨rc,l8,w8⟩:=Ct _ _ _ g8 (by omega)
     obtain⟨su,l9,w9⟩:=Ct _ _ _ g9 (by omega)
     obtain⟨sg,l10,w10⟩:=Ct _ _ _ g10 (by omega)
     obtain⟨en,l11,w11⟩:=Ct _ _ _ g11 (by omega)
     obtain⟨fl,l12,w12⟩:=Mt _ _ _ g12 (by omega)
     have h3:0≤ar∧ar<256:=by
      have h4:=aw
      simp[Lit.wf,IntKind.min,IntKind.max,IntKind.signed,IntKind.bits]at h4
      omega
     simp only[List.cons.injEq,and_true]at e0 e1 e2 e3
     obtain⟨rfl,rfl,rfl⟩:=e1
     subst e0 e2 e3
     have b2:Rows.uptoBulk z2.1=1:=by rw[a0];simp[Rows.uptoBulk]
     refine⟨⟨nm,ep,ve,re,ar,vd,pv,rq,cn,ob,rc,su,sg,en,fl⟩,⟨k6,k7,k8,k9,k10,k11,k12,k13,k14⟩,rfl,⟨s0,s2,s3,s4,h3,s1,l4,l5,l6,l7,l8,l9,l10,l11,l12⟩,?_⟩
     rw[hy]
     simp only[List.map_cons,List.map_nil,Cf,List.sum_cons,List.sum_nil,wtP]
     omega
theorem Hw (fuel:Nat) (c:Value) (y:DataW H×List MemPlace) (h:DataW.trod enc Tryz.prog W base spare held fuel 36 [c]=some y) (hb:Rows.uptoBulk y.1≤1048576):∃l,LIn AN Ai W l c∧wtL wtP l≤Rows.uptoBulk y.1:=
 C0 AN wtP 36 29 Tryz.underlying36 c3' (by show 0<15;omega) ⟨emp,0,emp,emp,0,emp,[],.nil,.nil,[],.nil,.nil,.nil,.nil,[]⟩ ⟨.slice none 0 0,.slice none 0 0,.slice none 0 0,.slice none 0 0,.slice none 0 0,.slice none 0 0,.slice none 0 0,.slice none 0 0,.slice none 0 0⟩ fuel (fun p _ cs y h hb=>NA p cs y h hb) c y h hb
theorem Mu (fuel:Nat) (cs:List Value) (y:DataW H×List MemPlace) (h:DataW.trod enc Tryz.prog W base spare held fuel 38 cs=some y) (hb:Rows.uptoBulk y.1≤1048576):∃p r,cs=Az.cells p r∧Az.holds Ai W p r∧wtO p≤Rows.uptoBulk y.1:=by
 obtain⟨zs,m,rfl,hy,hl,hzl,hg⟩:=DataW.trod_struct Tryz.underlying38 h
 rw[cRo]at hl
 match cs,hl with
 | [k0,k1],_=>
   match zs,hzl with
   | [z0,z1],_=>
     have g0:DataW.trod enc Tryz.prog W base spare held m 3 [k0]=some z0:=by simpa [c3]using hg 0 _ rfl
     have g1:DataW.trod enc Tryz.prog W base spare held m 36 [k1]=some z1:=by simpa [cPs]using hg 1 _ rfl
     clear hg h
     rw[hy]at hb
     simp only[List.map_cons,List.map_nil,Cf,List.sum_cons,List.sum_nil]at hb
     obtain⟨pr,e0,a0,aw⟩:=DataW.trod_int Tryz.underlying3 g0
     obtain⟨l,hl,hw⟩:=Hw _ _ _ g1 (by omega)
     have h4: -9223372036854775808≤pr∧pr≤9223372036854775807:=by
      have h4:=aw
      simp[Lit.wf,IntKind.min,IntKind.max,IntKind.signed,IntKind.bits]at h4
      omega
     simp only[List.cons.injEq,and_true]at e0
     subst e0
     have b2:Rows.uptoBulk z0.1=1:=by rw[a0];simp[Rows.uptoBulk]
     refine⟨⟨pr,l⟩,k1,rfl,⟨h4,hl⟩,?_⟩
     rw[hy]
     simp only[List.map_cons,List.map_nil,Cf,List.sum_cons,List.sum_nil,wtO]
     omega
theorem Hy (fuel:Nat) (cs:List Value) (y:DataW H×List MemPlace) (h:DataW.trod enc Tryz.prog W base spare held fuel 41 cs=some y) (hb:Rows.uptoBulk y.1≤1048576):∃d vr vi,cs= [vr,vi]∧AR Ai W d vr vi∧wtA d≤Rows.uptoBulk y.1:=by
 obtain⟨zs,m,rfl,hy,hl,hzl,hg⟩:=DataW.trod_struct Tryz.underlying41 h
 rw[Rj]at hl
 match cs,hl with
 | [k0,k1],_=>
   match zs,hzl with
   | [z0,z1],_=>
     have g0:DataW.trod enc Tryz.prog W base spare held m 39 [k0]=some z0:=by simpa [Ri]using hg 0 _ rfl
     have g1:DataW.trod enc Tryz.prog W base spare held m 36 [k1]=some z1:=by simpa [cPs]using hg 1 _ rfl
     clear hg h
     rw[hy]at hb
     simp only[List.map_cons,List.map_nil,Cf,List.sum_cons,List.sum_nil]at hb
     obtain⟨lr,hr,hrw⟩:=C0 Az wtO 39 38 Tryz.underlying39 cRo (by show 0<2;omega) ⟨0,[]⟩ nV m (fun p _ cs y h hb=>Mu p cs y h hb) k0 z0 g0 (by omega)
     obtain⟨li,hi,hiw⟩:=Hw _ _ _ g1 (by omega)
     refine⟨⟨lr,li⟩,k0,k1,rfl,⟨hr,hi⟩,?_⟩
     rw[hy]
     simp only[List.map_cons,List.map_nil,Cf,List.sum_cons,List.sum_nil,wtA]
     omega
end
theorem DO {md:Region.Mode} {ops:Array Oper} {listed:Array Bool} {i:Nat} (h:i∈Region.ready md ops listed):i<listed.size∧listed[i]?=some false:=by
 unfold Region.ready at h
 have h2:=(List.mem_filter.1 h).2
 simp only[Bool.and_eq_true,Bool.not_eq_true']at h2
 have h3:=h2.1
 cases h4:listed[i]? with
 |none=>simp[Array.getD_eq_getD_getElem?,h4]at h3
 |some b=>
  simp[Array.getD_eq_getD_getElem?,h4]at h3
  subst h3
  exact⟨(Array.getElem?_eq_some_iff.1 h4).1,rfl⟩
theorem DP {md:Region.Mode} {ops:Array Oper} {listed:Array Bool} {i:Nat} (h:i∈Region.ready md ops listed):∃o,ops[i]?=some o∧∀e∈o.after.toList,Region.binds md e=true→listed.getD e.on false=true:=by
 unfold Region.ready at h
 have h2:=(List.mem_filter.1 h).2
 simp only[Bool.and_eq_true]at h2
 have h3:=h2.2
 cases ho:ops[i]? with
 |none=>rw[ho]at h3;simp at h3
 |some o=>
  rw[ho]at h3
  simp only[Option.map_some,Option.getD_some]at h3
  refine⟨o,rfl,fun e he hb=> ?_⟩
  rw[Array.all_eq_true_iff_forall_mem]at h3
  have h4:=h3 e (by simpa using he)
  simpa [hb]using h4
theorem MY {l:List Bool} {i:Nat} (h:l[i]?=some false):(l.set i true).count false+1=l.count false:=by
 induction l generalizing i with
 |nil=>simp at h
 |cons b l ih=>
  cases i with
  |zero=>
   simp at h
   subst h
   simp
  |succ i=>
   simp only[List.getElem?_cons_succ]at h
   have:=ih h
   simp only[List.set_cons_succ,List.count_cons]
   omega
theorem D1 {P:Program} {md:Region.Mode} {ops:Array Oper} {Q:Exit→Act→World→Prop} (Inv:Array Bool→Act→World→Prop)
 (hstep:∀listed a w i,Inv listed a w→i∈Region.ready md ops listed→wpOp P ops Q i (fun a' w'=>Inv (listed.setIfInBounds i true) a' w') a w)
 (hdone:∀listed a w,Inv listed a w→Region.ready md ops listed= []→Q .normal a w):
 ∀(fuel:Nat) (listed:Array Bool) (a:Act) (w:World),listed.toList.count false≤fuel→Inv listed a w→wpAny P md ops Q fuel listed a w
 |0,listed,a,w,hc,h=>by
  have hr:Region.ready md ops listed= []:=by
   cases hr:Region.ready md ops listed with
   |nil=>rfl
   |cons i l=>
    have h1:=DO (show i∈Region.ready md ops listed by rw[hr];exact List.mem_cons_self)
    have h2:false∈listed.toList:=by
     have:=h1.2
     rw[←Array.getElem?_toList]at this
     exact List.mem_of_getElem? this
    have:=List.count_pos_iff.2 h2
    omega
  exact⟨hr,hdone _ _ _ h hr⟩
 |fuel+1,listed,a,w,hc,h=>by
  refine⟨fun hr=>hdone _ _ _ h hr,fun i hi=> ?_⟩
  refine wpOp_mono (fun a' w' h'=>D1 Inv hstep hdone fuel _ a' w' ?_ h') (hstep _ _ _ i h hi)
  have h1:=DO hi
  have h2:listed.toList[i]?=some false:=by rw[Array.getElem?_toList];exact h1.2
  have h3:=MY h2
  rw[Array.toList_setIfInBounds]
  omega
abbrev frm (F mid B:List Value):Act:={tmps:=(F++mid++B).toArray,defers:= []}
theorem DU {F mid B:List Value} {n d:Nat} (hF:F.length=n) (hd:d<mid.length):(frm F mid B).eval (.tmp (n+d))=(mid[d]?).getD undef:=by
 have h:¬n+d<n:=by omega
 simp[Act.eval,List.getElem?_append,hF,hd,h]
theorem BZ {F mid B:List Value} {n d:Nat} (hF:F.length=n) (hd:d<mid.length) (v:Value):(frm F mid B).put (some (n+d)) v=frm F (mid.set d v) B:=by
 simp only[Act.put,frm,Act.mk.injEq,and_true]
 apply Array.toList_inj.1
 simp only[Array.toList_setIfInBounds,List.set_append,hF,List.length_append]
 rw[if_pos (by omega),if_neg (by omega),Nat.add_sub_cancel_left]
theorem AI {F mid B:List Value} {t:Nat} (ht:t<F.length):(frm F mid B).eval (.tmp t)=(F[t]?).getD undef:=by
 simp[Act.eval,List.getElem?_append,ht]
theorem E5 {ops:Array Oper} {listed:Array Bool} (hlow:(ops.toList.zipIdx.all fun x=>x.1.after.all fun e=>decide (e.on<x.2))=true) (hsz:listed.size=ops.size) (hr:Region.ready .any ops listed= []):∀i,i<ops.size→listed.getD i false=true:=by
 intro i
 induction i using Nat.strongRecOn with
 |_ i ih=>
  intro hi
  have hi2:i<listed.size:=by omega
  cases hb:listed[i]with
  |true=>simp[Array.getD_eq_getD_getElem?,hi2,hb]
  |false=>
   exfalso
   have hmem:i∈Region.ready .any ops listed:=by
    unfold Region.ready
    refine List.mem_filter.2 ⟨List.mem_range.2 hi,?_⟩
    rw[Bool.and_eq_true]
    refine⟨by simp[Array.getD_eq_getD_getElem?,hi2,hb],?_⟩
    rw[Array.getElem?_eq_getElem hi]
    simp only[Option.map_some,Option.getD_some]
    rw[Array.all_eq_true_iff_forall_mem]
    intro e he
    rw[List.all_eq_true]at hlow
    have h1:=hlow (ops[i],i) (by
     refine List.mem_of_getElem? (i:=i) ?_
     rw[List.getElem?_zipIdx,Array.getElem?_toList,Array.getElem?_eq_getElem hi]
     simp)
    rw[Array.all_eq_true_iff_forall_mem]at h1
    have h2:e.on<i:=by simpa using h1 e he
    rw[ih e.on h2 (by omega)]
    simp
   rw[hr]at hmem
   cases hmem
abbrev zC (s:ByteArray):Array Value:= #[.string s,.int .i64 0,.string {data:= #[49]},.string {data:= #[50]},.int .u8 2,.string ⟨#[]⟩,Bg,Bg,Bg,Bg,Bg,Bg,Bg,Bg,Bg]
abbrev pC (p:Aq) (r:AE):Array Value:= #[.string p.name,.int .i64 p.ep,.string p.ver,.string p.rel,.int .u8 p.arch,.string p.vendor,r.prov,r.req,r.con,r.obs,r.reco,r.sup,r.sug,r.enh,r.files]
abbrev oC (gp:Nat):Array Value:= #[.int .i64 200,.slice (some ⟨gp,0,none⟩) 1 1,.int .i64 0,.slice none 0 0]
abbrev nZ:ByteArray:={data:= #[122]}
def okR (n0:World) (p:Aq) (r:AE) (w:World):Nat→Value→Prop
 |0,v=>v=p.val r
 |1,v=>∃gp,v= .slice (some ⟨gp,0,none⟩) 1 1∧Blk w gp 29 (pC p r)
 |2,v=>∃gp,v= .agg #[.int .i64 200,.slice (some ⟨gp,0,none⟩) 1 1]∧Blk w gp 29 (pC p r)
 |3,v=>v= .agg #[.int .i64 0,.slice none 0 0]
 |4,v=>∃go gp,v= .slice (some ⟨go,0,none⟩) 2 2∧Blk w go 38 (oC gp)∧Blk w gp 29 (pC p r)
 |5,v=>v= .agg (zC nZ)
 |6,v=>∃gz,v= .slice (some ⟨gz,0,none⟩) 1 1∧Blk w gz 29 (zC nZ)
 |7,v=>∃go gp gz,v= .agg #[.slice (some ⟨go,0,none⟩) 2 2,.slice (some ⟨gz,0,none⟩) 1 1]∧Blk w go 38 (oC gp)∧Blk w gp 29 (pC p r)∧Blk w gz 29 (zC nZ)
 |8,v=>∃gd,v= .pointer (some ⟨gd,0,none⟩)∧Blk w gd 41 #[.slice none 0 0,.slice none 0 0]∧n0.heap.size≤gd
 |_,_=>True
theorem Blk.bel' {w w':World} {g:Nat} {t:TypeId} {cs:Array Value} (h:Blk w g t cs) (hb:Below w.heap.size w w'):Blk w' g t cs:=h.below hb h.lt
theorem okR.bel {n0:World} {p:Aq} {r:AE} {w w':World} (hb:Below w.heap.size w w'):∀{i:Nat} {v:Value},okR n0 p r w i v→okR n0 p r w' i v
 |0,_,h=>h
 |1,_,⟨gp,h1,h2⟩=>⟨gp,h1,h2.bel' hb⟩
 |2,_,⟨gp,h1,h2⟩=>⟨gp,h1,h2.bel' hb⟩
 |3,_,h=>h
 |4,_,⟨go,gp,h1,h2,h3⟩=>⟨go,gp,h1,h2.bel' hb,h3.bel' hb⟩
 |5,_,h=>h
 |6,_,⟨gz,h1,h2⟩=>⟨gz,h1,h2.bel' hb⟩
 |7,_,⟨go,gp,gz,h1,h2,h3,h4⟩=>⟨go,gp,gz,h1,h2.bel' hb,h3.bel' hb,h4.bel' hb⟩
 |8,_,⟨gd,h1,h2,h3⟩=>⟨gd,h1,h2.bel' hb,h3⟩
 |_+9,_,_=>trivial
theorem QZ:∃i,Tryz.prog.info? 29=some i∧i.zero=some (.agg #[.string ⟨#[]⟩,.int .i64 0,.string ⟨#[]⟩,.string ⟨#[]⟩,.int .u8 0,.string ⟨#[]⟩,Bg,Bg,Bg,Bg,Bg,Bg,Bg,Bg,Bg])∧i.size=15∧i.bytes=296:=
 info_parts (P:=Tryz.prog) (e:=29) (z:= .agg #[.string ⟨#[]⟩,.int .i64 0,.string ⟨#[]⟩,.string ⟨#[]⟩,.int .u8 0,.string ⟨#[]⟩,Bg,Bg,Bg,Bg,Bg,Bg,Bg,Bg,Bg]) (size:=15) (bytes:=296) (by kernel_rfl)
section
variable {o:Oper} {a:Act} {w:World} {K:Act→World→Prop} {Q:Exit→Act→World→Prop}
theorem MS {t:TypeId} {parts:Array (Nat×Operand)} (ho:o.op= .build t parts) (vs:List (Nat×Value)) (hv:parts.toList.map (fun(i,x)=>(i,a.eval x))=vs) (cells:Array Value) (hf:Tryz.prog.built t vs=some cells) (h:K (a.put o.dst (.agg cells)) w):o.wp Tryz.prog a w K Q:=by
 rw[←Array.toList_map]at hv
 refine wp_build t parts ho (by rw[hv,hf];rfl) ?_
 rw[hv,hf]
 exact h
theorem N5 (t0:Nat) (cs:Array Value) (ho:o.op= .buildSlice 36 1 #[(0,.tmp t0)]) (h0:a.eval (.tmp t0)= .agg cs) (_hcs:cs.size=15)
 (hf:Instr.fill (fun i=>some (i*15,15)) ((Array.range (1*15)).map ((#[.string ⟨#[]⟩,.int .i64 0,.string ⟨#[]⟩,.string ⟨#[]⟩,.int .u8 0,.string ⟨#[]⟩,Bg,Bg,Bg,Bg,Bg,Bg,Bg,Bg,Bg]:Array Value)[·%15]!)) [(0,.agg cs)]=some cs)
 (h:K (a.put o.dst (.slice (some ⟨w.heap.size,0,none⟩) 1 1)) (w.alloc (.cells cs 29))):o.wp Tryz.prog a w K Q:=by
 obtain⟨i,hi,hz,hs,_⟩:=QZ
 refine wp_buildSlice 36 29 1 _ ho cs i _ Tryz.underlying36 hi hz (by rw[hs];omega) (by rw[hs];omega) ?_ h
 rw[hs]
 have hv:(#[(0,Operand.tmp t0)].map fun(i,x)=>(i,a.eval x)).toList= [(0,.agg cs)]:=by
  rw[Array.toList_map]
  show [(0,a.eval (.tmp t0))]=_
  rw[h0]
 rw[hv]
 exact hf
end
theorem LIn.blk {α:Type} {K:Kd α} {B:World→Nat→Prop} {w:World} {g:Nat} {t:TypeId} {l:List α} (ps:List (α×K.R)) (hl:ps.map Prod.fst=l) {n:Nat} (hn:ps.length=n) (hn2:n≤4611686018427387904) {cs:List Value} (hcs:enL K ps=cs) (hb:Blk w g t cs.toArray) (hh:∀p∈ps,K.holds B w p.1 p.2) (hB:B w g):
 LIn K B w l (.slice (some ⟨g,0,none⟩) n n):=by
 subst hl hn hcs
 refine⟨some ⟨g,0,none⟩,ps.length,by rw[List.length_map],by rw[List.length_map];exact hn2,fun j hj=> ?_⟩
 have hj':j<ps.length:=by rwa [List.length_map]at hj
 refine⟨g,0,ps[j].2,rfl,hB,⟨hb.lt,fun i hi=> ?_⟩,?_⟩
 ·rw[K.len]at hi
  rw[hb.cell,Nat.zero_add,List.getElem_map]
  have:=GE K ps j hj' i hi
  simpa using this
 ·rw[List.getElem_map]
  exact hh ps[j] (List.getElem_mem _)
def Q3:Aq:=⟨{data:= #[97]},0,{data:= #[49]},{data:= #[50]},9,⟨#[]⟩,[],FM,FM,[],FM,FM,FM,FM,[]⟩
def Da:Aq:=⟨⟨#[]⟩,0,⟨#[]⟩,⟨#[]⟩,0,⟨#[]⟩,[],FM,FM,[],FM,FM,FM,FM,[]⟩
def d1:AA:=⟨[],[Q3]⟩
def d2:AA:=⟨[⟨1025,[Q3]⟩],[]⟩
def d3:AA:=⟨[⟨-1,[]⟩],[]⟩
def d4:AA:=⟨List.replicate 17 ⟨0,[]⟩,[]⟩
def d5:AA:=⟨[⟨0,List.replicate 200 Da⟩],List.replicate 57 Da⟩
section
variable {X:World} {g g1 g2 g3:Nat}
theorem LIn.made {α:Type} {K:Kd α} {X:World} {g:Nat} {t:TypeId} {n N:Nat} {x:α} {r:K.R} {z:Array Value} (hz:z=(K.cells x r).toArray) (_hK:0<K.size) (hN:N=n*K.size) (hn:n≤4611686018427387904) (h:Blk X g t (madeCells z N)) (hx:K.holds Ai X x r):
 LIn K Ai X (List.replicate n x) (.slice (some ⟨g,0,none⟩) n n):=by
 subst hz hN
 refine⟨some ⟨g,0,none⟩,n,by rw[List.length_replicate],by rw[List.length_replicate];exact hn,fun j hj=> ?_⟩
 rw[List.length_replicate]at hj
 refine⟨g,0,r,rfl,trivial,⟨h.lt,fun i hi=> ?_⟩,?_⟩
 ·rw[K.len]at hi
  rw[List.getElem_replicate]
  have hlt:j*K.size+i<n*K.size:=by
   have:=Nat.mul_le_mul_right K.size (show j+1≤n by omega)
   rw[Nat.add_mul]at this
   omega
  have hmod:(j*K.size+i)%K.size=i:=by rw[Nat.mul_comm,Nat.mul_add_mod,Nat.mod_eq_of_lt hi]
  have hsz:(K.cells x r).toArray.size=K.size:=by rw[List.size_toArray,K.len]
  have hlen:i<(K.cells x r).length:=by rw[K.len];exact hi
  rw[h.cell,Nat.zero_add]
  unfold madeCells
  rw[Array.getElem?_map,Array.getElem?_range,if_pos hlt]
  simp[hsz,hmod,hlen]
 ·rw[List.getElem_replicate]
  exact hx
end
theorem KF (n:Nat) (L:List Value):frm (L.take n) (L.drop n) []={tmps:=L.toArray,defers:= []}:=by
 unfold frm
 rw[List.append_nil,List.take_append_drop]
section
variable {o:Oper} {a:Act} {w:World} {K:Act→World→Prop} {Q:Exit→Act→World→Prop}
theorem DW (t u:Nat) (v:Value) (ho:o.op= .pick (.tmp t) (.const (.bool true)) (.tmp u)) (ht:a.eval (.tmp t)= .bool false) (hx:a.eval (.tmp u)=v) (h:K (a.put o.dst v) w):o.wp Tryz.prog a w K Q:=by
 unfold Oper.wp execOp
 simp only[ho,ht,hx]
 go_simp
 exact h
end
theorem Ad {o:Oper} {y:Nat→Option Bool} (h:o.guard=none):Region.wanted o y=true:=by unfold Region.wanted;rw[h]
theorem Pz (a b:List ByteArray) (va vb:Value) (w:World) (ha:LIn A2 Ai w a va) (hb:LIn A2 Ai w b vb):Calls Tryz.prog 100 #[va,vb] w fun e w'=>e= .returned (.bool (eqL eqT a b))∧Below w.heap.size w w':=by
 obtain⟨a1,c1,rfl⟩:=ha.form
 obtain⟨a2,c2,rfl⟩:=hb.form
 have hn1:=ha.bound
 have hn2:=hb.bound
 have HA:=Hd ha
 have HB:=Hd hb
 obtain⟨T,hT⟩:∃T,T=eqL eqT a b:=⟨_,rfl⟩
 rw[←hT]
 have HT:=Hd hT
 clear ha hb hT
 by_cases hnn:a.length=b.length
 ·have HNN:=Hd hnn
  obtain⟨n,hn⟩:∃n,n=a.length:=⟨_,rfl⟩
  have HLn:=Hd (show a.length=n∧b.length=n from⟨hn.symm,by omega⟩)
  rw[←hnn,←hn]
  rw[←hn]at hn1
  clear hn2 hnn hn
  go_enter Tryz.func100,Tryz.ntmps100
  go_wp2_with fail
  go_loopw [13] (fun i wr=>∃k:Nat,k≤n∧i= .int .i64 k∧Hid ((∀j (h1:j<a.length) (h2:j<b.length),j<k→eqT a[j] b[j]=true)∧Below w.heap.size w wr)) (fun i wr=>n-(intOf i).toNat)
  case atStart=>exact⟨0,by omega,rfl,⟨fun j _ _ h=>absurd h (Nat.not_lt_zero j),Below.refl _ _⟩⟩
  case round=>
   obtain⟨k,hk,rfl,HQ⟩:=hrel
   by_cases hlt:k<n
   ·have hki:(k:Int)<(n:Int):=by omega
    obtain⟨b1,o1,r1,ha1,_,hcs1,hh1⟩:=HA.out.at_ k (by have:=HLn.out;omega)
    have hvb:Value.slice a2 n c2= .slice a2 b.length c2:=by rw[HLn.out.2]
    obtain⟨b2,o2,r2,ha2,_,hcs2,hh2⟩:=HB.out.at_ k (by have:=HLn.out;omega)
    obtain⟨x,hx⟩:∃x,x=a[k]'(by have:=HLn.out;omega):=⟨_,rfl⟩
    obtain⟨y,hy⟩:∃y,y=b[k]'(by have:=HLn.out;omega):=⟨_,rfl⟩
    rw[←hx]at hcs1 hh1
    rw[←hy]at hcs2 hh2
    have HXY:=Hd (show∀(h1:k<a.length) (h2:k<b.length),a[k]=x∧b[k]=y from fun _ _=>⟨hx.symm,hy.symm⟩)
    subst ha1 ha2
    have hd1:=hcs1.below HQ.out.2
    have hd2:=hcs2.below HQ.out.2
    dsimp only[A2]at hd1 hd2
    have x0:wr.cell? ⟨b1,o1+k,none⟩=some (.string x):=(by have h:=hd1.2 0 (show 0<1 by omega);rwa [Nat.mul_one]at h)
    have y0:wr.cell? ⟨b2,o2+k,none⟩=some (.string y):=(by have h:=hd2.2 0 (show 0<1 by omega);rwa [Nat.mul_one]at h)
    have p1:=hd1.1
    have p2:=hd2.1
    clear hcs1 hcs2 hh1 hh2 hd1 hd2 hx hy hvb
    have HFr:=Hd HQ.out.2
    have HLt:=Hd hlt
    by_cases hq:x.toList=y.toList
    ·have HE:=Hd hq
     go_upto_region 6 with fail
     go_quiet (fail)
     go_wp2_with fail
     go_roundw
     case rel=>exact⟨k+1,by omega,by go_num,⟨fun j h1 h2 h3=>by
      by_cases hj:j<k
      ·exact HQ.out.1 j h1 h2 hj
      ·obtain rfl:j=k:=by omega
       obtain⟨e1,e2⟩:=HXY.out h1 h2
       rw[e1,e2]
       exact decide_eq_true (DX HE.out),AD HFr.out _⟩⟩
     case measure=>simp[intOf];omega
    ·have HN:=Hd hq
     have hq2:(x.toList==y.toList)=false:=by simpa using hq
     have HT2:=Hd (show T=false by
      rw[HT.out]
      have h1:k<a.length:=by have:=HLn.out;have:=HLt.out;omega
      have h2:k<b.length:=by have:=HLn.out;have:=HLt.out;omega
      obtain⟨e1,e2⟩:=HXY.out h1 h2
      exact BP h1 h2 (by rw[e1,e2];exact decide_eq_false fun e=>HN.out (by rw[e])))
     go_upto_region 6 with fail
     go_quiet (fail)
     go_wp2_with fail
     go_ret
     exact⟨Af HT2.out.symm,AD HFr.out _⟩
   ·obtain rfl:k=n:=by omega
    have HT2:=Hd (show T=true by rw[HT.out];exact(Bp _ _ _).2 ⟨HNN.out,fun j h1 h2=>HQ.out.1 j h1 h2 (by have:=HLn.out;omega)⟩)
    go_wp2_with fail
    go_ret
    exact⟨Af HT2.out.symm,HQ.out.2⟩
 ·have h1:¬(a.length:Int)=(b.length:Int):=by omega
  have HT2:=Hd (show T=false by rw[HT.out];exact CO hnn)
  clear hnn
  go_enter Tryz.func100,Tryz.ntmps100
  go_wp2_with fail
  go_ret
  exact⟨Af HT2.out.symm,Below.refl _ _⟩
theorem LD (a b:List Ax) (va vb:Value) (w:World) (ha:LIn AW Ai w a va) (hb:LIn AW Ai w b vb):Calls Tryz.prog 99 #[va,vb] w fun e w'=>e= .returned (.bool (eqL Ar a b))∧Below w.heap.size w w':=by
 obtain⟨a1,c1,rfl⟩:=ha.form
 obtain⟨a2,c2,rfl⟩:=hb.form
 have hn1:=ha.bound
 have hn2:=hb.bound
 have HA:=Hd ha
 have HB:=Hd hb
 obtain⟨T,hT⟩:∃T,T=eqL Ar a b:=⟨_,rfl⟩
 rw[←hT]
 have HT:=Hd hT
 clear ha hb hT
 by_cases hnn:a.length=b.length
 ·have HNN:=Hd hnn
  obtain⟨n,hn⟩:∃n,n=a.length:=⟨_,rfl⟩
  have HLn:=Hd (show a.length=n∧b.length=n from⟨hn.symm,by omega⟩)
  rw[←hnn,←hn]
  rw[←hn]at hn1
  clear hn2 hnn hn
  go_enter Tryz.func99,Tryz.ntmps99
  go_wp2_with fail
  go_loopw [13] (fun i wr=>∃k:Nat,k≤n∧i= .int .i64 k∧Hid ((∀j (h1:j<a.length) (h2:j<b.length),j<k→Ar a[j] b[j]=true)∧Below w.heap.size w wr)) (fun i wr=>n-(intOf i).toNat)
  case atStart=>exact⟨0,by omega,rfl,⟨fun j _ _ h=>absurd h (Nat.not_lt_zero j),Below.refl _ _⟩⟩
  case round=>
   obtain⟨k,hk,rfl,HQ⟩:=hrel
   by_cases hlt:k<n
   ·have hki:(k:Int)<(n:Int):=by omega
    obtain⟨b1,o1,r1,ha1,_,hcs1,hh1⟩:=HA.out.at_ k (by have:=HLn.out;omega)
    have hvb:Value.slice a2 n c2= .slice a2 b.length c2:=by rw[HLn.out.2]
    obtain⟨b2,o2,r2,ha2,_,hcs2,hh2⟩:=HB.out.at_ k (by have:=HLn.out;omega)
    obtain⟨x,hx⟩:∃x,x=a[k]'(by have:=HLn.out;omega):=⟨_,rfl⟩
    obtain⟨y,hy⟩:∃y,y=b[k]'(by have:=HLn.out;omega):=⟨_,rfl⟩
    rw[←hx]at hcs1 hh1
    rw[←hy]at hcs2 hh2
    have HXY:=Hd (show∀(h1:k<a.length) (h2:k<b.length),a[k]=x∧b[k]=y from fun _ _=>⟨hx.symm,hy.symm⟩)
    subst ha1 ha2
    have hd1:=hcs1.below HQ.out.2
    have hd2:=hcs2.below HQ.out.2
    dsimp only[AW]at hd1 hd2
    have x0:wr.cell? ⟨b1,o1+k*5,none⟩=some (.string x.name):=hd1.2 0 (show 0<5 by omega)
    have x1:wr.cell? ⟨b1,o1+k*5+1,none⟩=some (.int .u8 x.op):=hd1.2 1 (show 1<5 by omega)
    have x2:wr.cell? ⟨b1,o1+k*5+2,none⟩=some (.int .i64 x.ep):=hd1.2 2 (show 2<5 by omega)
    have x3:wr.cell? ⟨b1,o1+k*5+3,none⟩=some (.string x.ver):=hd1.2 3 (show 3<5 by omega)
    have x4:wr.cell? ⟨b1,o1+k*5+4,none⟩=some (.string x.rel):=hd1.2 4 (show 4<5 by omega)
    have y0:wr.cell? ⟨b2,o2+k*5,none⟩=some (.string y.name):=hd2.2 0 (show 0<5 by omega)
    have y1:wr.cell? ⟨b2,o2+k*5+1,none⟩=some (.int .u8 y.op):=hd2.2 1 (show 1<5 by omega)
    have y2:wr.cell? ⟨b2,o2+k*5+2,none⟩=some (.int .i64 y.ep):=hd2.2 2 (show 2<5 by omega)
    have y3:wr.cell? ⟨b2,o2+k*5+3,none⟩=some (.string y.ver):=hd2.2 3 (show 3<5 by omega)
    have y4:wr.cell? ⟨b2,o2+k*5+4,none⟩=some (.string y.rel):=hd2.2 4 (show 4<5 by omega)
    have p1:=hd1.1
    have p2:=hd2.1
    clear hcs1 hcs2 hh1 hh2 hd1 hd2 hx hy hvb
    have HFr:=Hd HQ.out.2
    have HLt:=Hd hlt
    by_cases e0:x.name.toList=y.name.toList
    ·by_cases e1:x.op=y.op
     ·by_cases e2:x.ep=y.ep
      ·by_cases e3:x.ver.toList=y.ver.toList
       ·by_cases e4:x.rel.toList=y.rel.toList
        ·have HE:=Hd (show x.name.toList=y.name.toList∧x.op=y.op∧x.ep=y.ep∧x.ver.toList=y.ver.toList∧x.rel.toList=y.rel.toList from⟨e0,e1,e2,e3,e4⟩)
         go_upto_region 6 with fail
         go_region
         go_wp2_with fail
         go_roundw
         case rel=>exact⟨k+1,by omega,by go_num,⟨fun j h1 h2 h3=>by
          by_cases hj:j<k
          ·exact HQ.out.1 j h1 h2 hj
          ·obtain rfl:j=k:=by omega
           obtain⟨e1,e2⟩:=HXY.out h1 h2
           rw[e1,e2]
           exact EU HE.out.1 HE.out.2.1 HE.out.2.2.1 HE.out.2.2.2.1 HE.out.2.2.2.2,by(first|exact HFr.out|exact HFr.out.drew|exact AD HFr.out _)⟩⟩
         case measure=>simp[intOf];omega
        ·have HN:=Hd e4
         have HT2:=Hd (show T=false by
          rw[HT.out]
          have h1:k<a.length:=by have:=HLn.out;have:=HLt.out;omega
          have h2:k<b.length:=by have:=HLn.out;have:=HLt.out;omega
          obtain⟨e1,e2⟩:=HXY.out h1 h2
          exact BP h1 h2 (by rw[e1,e2];exact FX HN.out))
         go_upto_region 6 with fail
         go_region
         go_wp2_with fail
         go_ret
         exact⟨Af HT2.out.symm,by(first|exact HFr.out|exact HFr.out.drew|exact AD HFr.out _)⟩
       ·have HN:=Hd e3
        have HT2:=Hd (show T=false by
         rw[HT.out]
         have h1:k<a.length:=by have:=HLn.out;have:=HLt.out;omega
         have h2:k<b.length:=by have:=HLn.out;have:=HLt.out;omega
         obtain⟨e1,e2⟩:=HXY.out h1 h2
         exact BP h1 h2 (by rw[e1,e2];exact FW HN.out))
        go_upto_region 6 with fail
        go_region
        go_wp2_with fail
        go_ret
        exact⟨Af HT2.out.symm,by(first|exact HFr.out|exact HFr.out.drew|exact AD HFr.out _)⟩
      ·have HN:=Hd e2
       have HT2:=Hd (show T=false by
        rw[HT.out]
        have h1:k<a.length:=by have:=HLn.out;have:=HLt.out;omega
        have h2:k<b.length:=by have:=HLn.out;have:=HLt.out;omega
        obtain⟨e1,e2⟩:=HXY.out h1 h2
        exact BP h1 h2 (by rw[e1,e2];exact IR HN.out))
       go_upto_region 6 with fail
       go_region
       go_wp2_with fail
       go_ret
       exact⟨Af HT2.out.symm,by(first|exact HFr.out|exact HFr.out.drew|exact AD HFr.out _)⟩
     ·have HN:=Hd e1
      have HT2:=Hd (show T=false by
       rw[HT.out]
       have h1:k<a.length:=by have:=HLn.out;have:=HLt.out;omega
       have h2:k<b.length:=by have:=HLn.out;have:=HLt.out;omega
       obtain⟨e1,e2⟩:=HXY.out h1 h2
       exact BP h1 h2 (by rw[e1,e2];exact IQ HN.out))
      go_upto_region 6 with fail
      go_region
      go_wp2_with fail
      go_ret
      exact⟨Af HT2.out.symm,by(first|exact HFr.out|exact HFr.out.drew|exact AD HFr.out _)⟩
    ·have HN:=Hd e0
     have HT2:=Hd (show T=false by
      rw[HT.out]
      have h1:k<a.length:=by have:=HLn.out;have:=HLt.out;omega
      have h2:k<b.length:=by have:=HLn.out;have:=HLt.out;omega
      obtain⟨e1,e2⟩:=HXY.out h1 h2
      exact BP h1 h2 (by rw[e1,e2];exact ET HN.out))
     go_upto_region 6 with fail
     go_region
     go_wp2_with fail
     go_ret
     exact⟨Af HT2.out.symm,by(first|exact HFr.out|exact HFr.out.drew|exact AD HFr.out _)⟩
   ·obtain rfl:k=n:=by omega
    have HT2:=Hd (show T=true by rw[HT.out];exact(Bp _ _ _).2 ⟨HNN.out,fun j h1 h2=>HQ.out.1 j h1 h2 (by have:=HLn.out;omega)⟩)
    go_wp2_with fail
    go_ret
    exact⟨Af HT2.out.symm,HQ.out.2⟩
 ·have h1:¬(a.length:Int)=(b.length:Int):=by omega
  have HT2:=Hd (show T=false by rw[HT.out];exact CO hnn)
  clear hnn
  go_enter Tryz.func99,Tryz.ntmps99
  go_wp2_with fail
  go_ret
  exact⟨Af HT2.out.symm,Below.refl _ _⟩
theorem Il {p:Nat→Bool}:∀n:Nat,CQ p n=true↔∀j,j<n→p j=true
 |0=>⟨fun _ j h=>absurd h (Nat.not_lt_zero j),fun _=>rfl⟩
 |n+1=>by
  show(CQ p n && p n)=true↔_
  rw[Bool.and_eq_true,Il n]
  exact⟨fun⟨h1,h2⟩ j hj=>by
   by_cases e:j=n
   ·rw[e];exact h2
   ·exact h1 j (by omega),fun h=>⟨fun j hj=>h j (by omega),h n (by omega)⟩⟩
theorem OH (k k2:Int) (l m:List Ac):GR (ofL k l) (ofL k2 m)=eqL As l m:=by
 rw[Bool.eq_iff_iff,Bp]
 unfold GR
 rw[Bool.and_eq_true,decide_eq_true_eq,Il]
 show l.length=m.length∧(∀j,j<l.length→As (l.getD j .nil) (m.getD j .nil)=true)↔_
 constructor
 ·rintro⟨h1,h2⟩
  refine⟨h1,fun j k1 k2=> ?_⟩
  have:=h2 j k1
  rwa [List.getD_eq_getElem?_getD,List.getD_eq_getElem?_getD,List.getElem?_eq_getElem k1,List.getElem?_eq_getElem k2]at this
 ·rintro⟨h1,h2⟩
  refine⟨h1,fun j hj=> ?_⟩
  have:=h2 j hj (by omega)
  rwa [List.getD_eq_getElem?_getD,List.getD_eq_getElem?_getD,List.getElem?_eq_getElem hj,List.getElem?_eq_getElem (by omega)]
theorem Hk {w:World} {l:List Ac} {v:Value} (h:LIn Aj Ai w l v):Au w (ofL 0 l) v:=by
 have h2:LIn Aj Ai w (Ab (ofL 0 l)) v:=by rw[Bw];exact h
 exact AZ.is (h2.args ⟨BL,by show(0:Int)≤0;decide,by show(0:Int)<256;decide⟩)
theorem CI (l m:List Ac) (vl vm:Value) (w:World) (hl:LIn Aj Ai w l vl) (hm:LIn Aj Ai w m vm):Calls Tryz.prog 96 #[vl,vm] w fun e w'=>e= .returned (.bool (eqL As l m))∧Below w.heap.size w w':=by
 obtain⟨a,c,rfl⟩:=hl.form
 obtain⟨a2,c2,rfl⟩:=hm.form
 have h1:=Hk hl
 have h2:=Hk hm
 have HC:=Hd (show Calls Tryz.prog 97 #[.slice a l.length c,.slice a2 m.length c2,.func (.func 98) #[] #[]] w fun e w'=>e= .returned (.bool (eqL As l m))∧Below w.heap.size w w' from by
  have h:=LC w (ofL 0 l) (ofL 0 m) a a2 c c2 h1 h2 w (Below.refl _ _) fun j hj S S2 w' k1 k2 k3=>Ni w _ S _ S2 w' k1 k2 k3
  rw[OH]at h
  exact h)
 clear hl hm h1 h2
 go_enter Tryz.func96,Tryz.ntmps96
 go_wp2_with (first
  |(go_at_call 97;(with_reducible refine HC.out.mono ?_);rintro e w1 ⟨rfl,hb⟩;have HB:=Hd hb;clear hb)
  |fail)
 go_ret
 exact⟨rfl,HB.out⟩
section
variable {α:Type} {K:Kd α} {B:World→Nat→Prop} {w:World} {l:List α} {v:Value}
theorem LIn.src (h:LIn K B w l v) {tx t:TypeId} (hk:Tryz.prog.underlying tx=some (.slice t)) (dr:K.R):∃ps:List (α×K.R),ps.map Prod.fst=l∧(∀w',Below w.heap.size w w'→Src Tryz.prog K.size tx v l.length (enL K ps) w')∧∀p∈ps,K.holds B w p.1 p.2:=by
 obtain⟨a,c,rfl,hn,hel⟩:=h
 have hall:∀j:Nat,∃r:K.R,∀hj:j<l.length,∃b o,a=some ⟨b,o,none⟩∧AX w b (o+j*K.size) (K.cells l[j] r)∧K.holds B w l[j] r:=fun j=>by
  by_cases hj:j<l.length
  ·obtain⟨b,o,r,h1,_,h3,h4⟩:=hel j hj
   exact⟨r,fun _=>⟨b,o,h1,h3,h4⟩⟩
  ·exact⟨dr,fun h=>absurd h hj⟩
 obtain⟨R,hR⟩:=Classical.axiomOfChoice hall
 let ps:List (α×K.R):=(List.range l.length).attach.map fun j=>(l[j.1]'(by simpa using j.2),R j.1)
 have hlen:ps.length=l.length:=by simp[ps]
 have hat:∀j (hj:j<l.length),ps[j]'(by omega)=(l[j],R j):=fun j hj=>by simp[ps]
 have hfst:ps.map Prod.fst=l:=by
  apply List.ext_getElem
  ·simp[hlen]
  ·intro j h1 h2
   rw[List.getElem_map,hat j h2]
 have hhold:∀p∈ps,K.holds B w p.1 p.2:=fun p hp=>by
  obtain⟨j,hj,rfl⟩:=List.getElem_of_mem hp
  rw[hat j (by omega)]
  obtain⟨_,_,_,_,h5⟩:=hR j (by omega)
  exact h5
 have hone:∀u∈enL K ps,u.oneCell'=true:=fun u hu=>by
  obtain⟨p,hp,hu⟩:=List.mem_flatMap.1 hu
  exact K.one (hhold p hp) u hu
 refine⟨ps,hfst,fun w' hbw=> ?_,hhold⟩
 have hel2:(enL K ps).length=l.length*K.size:=by rw[Dw,hlen]
 cases a with
 |none=>
  have h0:l.length=0:=by
   rcases Nat.eq_zero_or_pos l.length with h|h
   ·exact h
   ·obtain⟨_,_,e,_⟩:=hR 0 h
    cases e
  have:enL K ps= []:=List.eq_nil_of_length_eq_zero (by rw[hel2,h0,Nat.zero_mul])
  rw[this,h0]
  exact Src.ofNil w' hk c
 |some ad=>
  refine Src.ofSlice w' hk ad l.length c (enL K ps) hel2 (fun i u hu=> ?_) hone
  have hi:i<l.length*K.size:=by
   rw[←hel2]
   exact(List.getElem?_eq_some_iff.1 hu).1
  have hK:0<K.size:=by
   rcases Nat.eq_zero_or_pos K.size with h|h
   ·rw[h,Nat.mul_zero]at hi;omega
   ·exact h
  have hj:i/K.size<l.length:=Nat.div_lt_of_lt_mul (by rw[Nat.mul_comm];exact hi)
  have hm:=Nat.mod_lt i hK
  have hdm:=Nat.div_add_mod i K.size
  obtain⟨b,o,e1,e2,_⟩:=hR (i/K.size) hj
  injection e1 with e1
  subst e1
  have h6:=GE K ps (i/K.size) (by omega) (i%K.size) hm
  rw[hat _ hj]at h6
  have h7:=(e2.below hbw).2 (i%K.size) (by rw[K.len];exact hm)
  have h8:i/K.size*K.size+i%K.size=i:=by rw[Nat.mul_comm];exact hdm
  rw[h8]at h6
  rw[Nat.add_assoc,h8]at h7
  rw[←hu,h6,←h7,Fk]
end
def GW {α:Type} (K:Kd α) (t:TypeId) (W0 w:World) (l:List α) (e:Ending) (w':World):Prop:=
 ∃(v':Value) (ps:List (α×K.R)),e= .returned v'∧ps.map Prod.fst=l∧(∀p∈ps,K.holds Ai W0 p.1 p.2)∧Own w' t K.size v' l.length (enL K ps)∧(∀k,v'.ownBlock=some k→w.heap.size≤k)∧Below w.heap.size w w'
def Io {α:Type} (K:Kd α) (t:TypeId) (w:World) (l:List α) (e:Ending) (w':World):Prop:=
 ∃(v':Value) (ps:List (α×K.R)),e= .returned v'∧ps.map Prod.fst=l∧(∀p∈ps,K.holds Ai w p.1 p.2)∧Own w' t K.size v' l.length (enL K ps)∧(∀k,v'.ownBlock=some k→w.heap.size≤k)∧Below w.heap.size w w'
theorem GN (l:List Ax) (v:Value) (w:World) (h:LIn AW Ai w l v) (hn:l.length≤1048576):Calls Tryz.prog 149 #[v] w (Io AW 32 w l):=by
 obtain⟨i,hi,hz0,hz1,hz2⟩:=info_parts (P:=Tryz.prog) (e:=32) (z:= .agg #[.string ⟨#[]⟩,.int .u8 0,.int .i64 0,.string ⟨#[]⟩,.string ⟨#[]⟩]) (size:=5) (bytes:=64) (by kernel_rfl)
 obtain⟨ps,hfst,hsrc,hhold⟩:=h.src (tx:=25) (t:=32) Tryz.underlying25 ()
 have hlin:=h
 obtain⟨a,c,rfl,hb,hel⟩:=h
 cases a with
 |none=>
  have h0:l.length=0:=by
   rcases Nat.eq_zero_or_pos l.length with h|h
   ·exact h
   ·obtain⟨_,_,_,e,_⟩:=hel 0 h
    cases e
  obtain rfl:l= []:=List.eq_nil_of_length_eq_zero h0
  have hbo:∀(c:Nat) W,Sem.run Tryz.prog (binOp BinOp.eql 25 (Value.slice none 0 c) (Value.slice none 0 0)) W= .ok (.bool true) W:=fun c W=>by kernel_rfl
  clear hsrc hhold hlin hel hfst
  go_enter Tryz.func149,Tryz.ntmps149
  go_wp2_with fail
  go_ret
  exact⟨_,[],rfl,rfl,(fun p hp=>by cases hp),Own.nil _ _ _,(fun k hk=>by simp[Value.ownBlock]at hk),Below.refl _ _⟩
 |some ad=>
  have hE:Own (w.alloc (.cells #[] 32)) 32 5 (.slice (some ⟨w.heap.size,0,none⟩) 0 0) 0 []:=Own.made w 32 5 #[] 0 rfl (by decide)
  obtain⟨ps3,hfst3,hS3,hhold3⟩:∃ps3:List (Ax×(AW).R),ps3.map Prod.fst=l∧Src Tryz.prog 5 25 (.slice (some ad) l.length c) l.length (enL AW ps3) (w.alloc (.cells #[] 32))∧∀p∈ps3,(AW).holds Ai w p.1 p.2:=⟨ps,hfst,hsrc _ (Ag w (.cells #[] 32)),hhold⟩
  have HR:=Hd (show ps3.map Prod.fst=l∧∀p∈ps3,(AW).holds Ai w p.1 p.2 from⟨hfst3,hhold3⟩)
  have hbo:∀(n:Nat) W,Sem.run Tryz.prog (binOp BinOp.eql 25 (Value.slice (some ad) n c) (Value.slice none 0 0)) W= .ok (.bool false) W:=fun n W=>by kernel_rfl
  clear hsrc hhold hlin hel hfst hfst3 hhold3 hb
  go_enter Tryz.func149,Tryz.ntmps149
  go_wp2_with (at_builtin;go_loud (refine AC _ rfl (.tmp 5) (.tmp 6) _ _ rfl 32 i _ 5 64 Tryz.underlying25 hi hz0 hz1 hz2 rfl (by omega) (.slice (some ⟨w.heap.size,0,none⟩) 0 0) 0 [] rfl hE (by simp) _ l.length _ rfl hS3 (by simp only[maxLen];omega) (by omega) ?_);intro ao2 cap2 w1 hn1 hm1 hown1 hg1 hat1 hlt1)
  go_ret
  have hbw:Below w.heap.size w w1:=((Below.refl w.heap.size w).alloc (Nat.le_refl _) _).trans ⟨hg1.os,hg1.tape,hg1.output,Nat.le_trans (by simp) hg1.size,fun k hk=>hg1.block k (by simp;omega) (by simp[Value.ownBlock];omega)⟩
  refine⟨.slice ao2 l.length cap2,ps3,by simp,HR.out.1,HR.out.2,(by simpa using hown1:Own w1 32 5 (.slice ao2 l.length cap2) l.length (enL AW ps3)),fun k hk=> ?_,hbw⟩
  rcases hat1 with h|h
  ·rw[Nat.zero_add]at h
   rw[h]at hk
   simp[Value.ownBlock]at hk
   omega
  ·rw[Nat.zero_add]at h
   rw[h]at hk
   injection hk with hk
   simp at hk
   omega
theorem K0 (l:List ByteArray) (v:Value) (w:World) (h:LIn A2 Ai w l v) (hn:l.length≤1048576):Calls Tryz.prog 150 #[v] w (Io A2 9 w l):=by
 obtain⟨i,hi,hz0,hz1,hz2⟩:=info_parts (P:=Tryz.prog) (e:=9) (z:= .string ⟨#[]⟩) (size:=1) (bytes:=16) (by kernel_rfl)
 obtain⟨ps,hfst,hsrc,hhold⟩:=h.src (tx:=27) (t:=9) Tryz.underlying27 ()
 have hlin:=h
 obtain⟨a,c,rfl,hb,hel⟩:=h
 cases a with
 |none=>
  have h0:l.length=0:=by
   rcases Nat.eq_zero_or_pos l.length with h|h
   ·exact h
   ·obtain⟨_,_,_,e,_⟩:=hel 0 h
    cases e
  obtain rfl:l= []:=List.eq_nil_of_length_eq_zero h0
  have hbo:∀(c:Nat) W,Sem.run Tryz.prog (binOp BinOp.eql 27 (Value.slice none 0 c) (Value.slice none 0 0)) W= .ok (.bool true) W:=fun c W=>by kernel_rfl
  clear hsrc hhold hlin hel hfst
  go_enter Tryz.func150,Tryz.ntmps150
  go_wp2_with fail
  go_ret
  exact⟨_,[],rfl,rfl,(fun p hp=>by cases hp),Own.nil _ _ _,(fun k hk=>by simp[Value.ownBlock]at hk),Below.refl _ _⟩
 |some ad=>
  have hE:Own (w.alloc (.cells #[] 9)) 9 1 (.slice (some ⟨w.heap.size,0,none⟩) 0 0) 0 []:=Own.made w 9 1 #[] 0 rfl (by decide)
  obtain⟨ps3,hfst3,hS3,hhold3⟩:∃ps3:List (ByteArray×(A2).R),ps3.map Prod.fst=l∧Src Tryz.prog 1 27 (.slice (some ad) l.length c) l.length (enL A2 ps3) (w.alloc (.cells #[] 9))∧∀p∈ps3,(A2).holds Ai w p.1 p.2:=⟨ps,hfst,hsrc _ (Ag w (.cells #[] 9)),hhold⟩
  have HR:=Hd (show ps3.map Prod.fst=l∧∀p∈ps3,(A2).holds Ai w p.1 p.2 from⟨hfst3,hhold3⟩)
  have hbo:∀(n:Nat) W,Sem.run Tryz.prog (binOp BinOp.eql 27 (Value.slice (some ad) n c) (Value.slice none 0 0)) W= .ok (.bool false) W:=fun n W=>by kernel_rfl
  clear hsrc hhold hlin hel hfst hfst3 hhold3 hb
  go_enter Tryz.func150,Tryz.ntmps150
  go_wp2_with (at_builtin;go_loud (refine AC _ rfl (.tmp 5) (.tmp 6) _ _ rfl 9 i _ 1 16 Tryz.underlying27 hi hz0 hz1 hz2 rfl (by omega) (.slice (some ⟨w.heap.size,0,none⟩) 0 0) 0 [] rfl hE (by simp) _ l.length _ rfl hS3 (by simp only[maxLen];omega) (by omega) ?_);intro ao2 cap2 w1 hn1 hm1 hown1 hg1 hat1 hlt1)
  go_ret
  have hbw:Below w.heap.size w w1:=((Below.refl w.heap.size w).alloc (Nat.le_refl _) _).trans ⟨hg1.os,hg1.tape,hg1.output,Nat.le_trans (by simp) hg1.size,fun k hk=>hg1.block k (by simp;omega) (by simp[Value.ownBlock];omega)⟩
  refine⟨.slice ao2 l.length cap2,ps3,by simp,HR.out.1,HR.out.2,(by simpa using hown1:Own w1 9 1 (.slice ao2 l.length cap2) l.length (enL A2 ps3)),fun k hk=> ?_,hbw⟩
  rcases hat1 with h|h
  ·rw[Nat.zero_add]at h
   rw[h]at hk
   simp[Value.ownBlock]at hk
   omega
  ·rw[Nat.zero_add]at h
   rw[h]at hk
   injection hk with hk
   simp at hk
   omega
theorem K1 (W0:World) (l:List Ac) (v:Value) (w:World) (h:LIn Aj Ai W0 l v) (hB:Below W0.heap.size W0 w) (hn:l.length≤1048576):Calls Tryz.prog 151 #[v] w (GW Aj 34 W0 w l):=by
 obtain⟨i,hi,hz0,hz1,hz2⟩:=info_parts (P:=Tryz.prog) (e:=34) (z:= .agg #[.int .u8 0,.string ⟨#[]⟩,.int .u8 0,.int .i64 0,.string ⟨#[]⟩,.string ⟨#[]⟩,.slice none 0 0]) (size:=7) (bytes:=96) (by kernel_rfl)
 obtain⟨ps,hfst,hsrc,hhold⟩:=h.src (tx:=26) (t:=34) Tryz.underlying26 nV
 have hlin:=h
 obtain⟨a,c,rfl,hb,hel⟩:=h
 cases a with
 |none=>
  have h0:l.length=0:=by
   rcases Nat.eq_zero_or_pos l.length with h|h
   ·exact h
   ·obtain⟨_,_,_,e,_⟩:=hel 0 h
    cases e
  obtain rfl:l= []:=List.eq_nil_of_length_eq_zero h0
  have hbo:∀(c:Nat) W,Sem.run Tryz.prog (binOp BinOp.eql 26 (Value.slice none 0 c) (Value.slice none 0 0)) W= .ok (.bool true) W:=fun c W=>by kernel_rfl
  clear hsrc hhold hlin hel hfst
  go_enter Tryz.func151,Tryz.ntmps151
  go_wp2_with fail
  go_ret
  exact⟨_,[],rfl,rfl,(fun p hp=>by cases hp),Own.nil _ _ _,(fun k hk=>by simp[Value.ownBlock]at hk),Below.refl _ _⟩
 |some ad=>
  have hE:Own (w.alloc (.cells #[] 34)) 34 7 (.slice (some ⟨w.heap.size,0,none⟩) 0 0) 0 []:=Own.made w 34 7 #[] 0 rfl (by decide)
  obtain⟨ps3,hfst3,hS3,hhold3⟩:∃ps3:List (Ac×(Aj).R),ps3.map Prod.fst=l∧Src Tryz.prog 7 26 (.slice (some ad) l.length c) l.length (enL Aj ps3) (w.alloc (.cells #[] 34))∧∀p∈ps3,(Aj).holds Ai W0 p.1 p.2:=⟨ps,hfst,hsrc _ (Aa hB (Ag w (.cells #[] 34))),hhold⟩
  have HR:=Hd (show ps3.map Prod.fst=l∧∀p∈ps3,(Aj).holds Ai W0 p.1 p.2 from⟨hfst3,hhold3⟩)
  have hbo:∀(n:Nat) W,Sem.run Tryz.prog (binOp BinOp.eql 26 (Value.slice (some ad) n c) (Value.slice none 0 0)) W= .ok (.bool false) W:=fun n W=>by kernel_rfl
  clear hsrc hhold hlin hel hfst hfst3 hhold3 hb
  go_enter Tryz.func151,Tryz.ntmps151
  go_wp2_with (at_builtin;go_loud (refine AC _ rfl (.tmp 5) (.tmp 6) _ _ rfl 34 i _ 7 96 Tryz.underlying26 hi hz0 hz1 hz2 rfl (by omega) (.slice (some ⟨w.heap.size,0,none⟩) 0 0) 0 [] rfl hE (by simp) _ l.length _ rfl hS3 (by simp only[maxLen];omega) (by omega) ?_);intro ao2 cap2 w1 hn1 hm1 hown1 hg1 hat1 hlt1)
  go_ret
  have hbw:Below w.heap.size w w1:=((Below.refl w.heap.size w).alloc (Nat.le_refl _) _).trans ⟨hg1.os,hg1.tape,hg1.output,Nat.le_trans (by simp) hg1.size,fun k hk=>hg1.block k (by simp;omega) (by simp[Value.ownBlock];omega)⟩
  refine⟨.slice ao2 l.length cap2,ps3,by simp,HR.out.1,HR.out.2,(by simpa using hown1:Own w1 34 7 (.slice ao2 l.length cap2) l.length (enL Aj ps3)),fun k hk=> ?_,hbw⟩
  rcases hat1 with h|h
  ·rw[Nat.zero_add]at h
   rw[h]at hk
   simp[Value.ownBlock]at hk
   omega
  ·rw[Nat.zero_add]at h
   rw[h]at hk
   injection hk with hk
   simp at hk
   omega
structure CL {α:Type} (K:Kd α) (t:TypeId) (w:World) (l:List α) (k:Nat) (v:Value) (W:World):Prop where
 ac:Acc K t w.heap.size W (l.take k) v
 bl:Below w.heap.size w W
section
variable {α:Type} {K:Kd α} {t:TypeId} {w W W':World} {l:List α} {k:Nat} {v v':Value}
theorem CL.start (K:Kd α) (t:TypeId) (w:World) (l:List α):CL K t w l 0 nV w:=⟨Acc.nil _ _ _ _,Below.refl _ _⟩
theorem CL.below (h:CL K t w l k v W) (hb:Below W.heap.size W W'):CL K t w l k v W':=⟨h.ac.below hb,Aa h.bl hb⟩
theorem CL.ownB (h:CL K t w l k v W) (b:Nat) (hb:v.ownBlock=some b):w.heap.size≤b∧b<W.heap.size:=by
 obtain⟨ps,h1,h2,h3,h4⟩:=h.ac.ex
 exact⟨h3 b hb,h2.lt b hb⟩
theorem CL.push {r:K.R} {xs:List Value} {m0:Nat} (h:CL K t w l k v W) (hk:k<l.length) (hown:Own W t K.size v k xs) (hm:w.heap.size≤m0) (hv:∀b,v.ownBlock=some b→b<m0) (hx:K.holds (Am m0) W l[k] r)
 (hO:Own W' t K.size v' (k+1) (xs++K.cells l[k] r)) (hg:W.grownBy W' v.ownBlock) (hat:v'.ownBlock=v.ownBlock∨v'.ownBlock=some W.heap.size):CL K t w l (k+1) v' W':=by
 have hll:(l.take k).length=k:=by rw[List.length_take];omega
 refine⟨?_,h.bl.trans ⟨hg.os,hg.tape,hg.output,Nat.le_trans h.bl.size hg.size|>fun _=>hg.size,fun b hb=>hg.block b (Nat.lt_of_lt_of_le hb h.bl.size) fun e=> ?_⟩⟩
 ·rw[List.take_succ_eq_append_getElem hk]
  exact Acc.push (by rw[hll];exact hown) h.ac hm hx hv h.bl.size (by rw[hll];exact hO) hg hat
 ·have:=(h.ownB b e.symm).1
  omega
theorem CL.done (h:CL K t w l l.length v W) (hl:l.length≤4611686018427387904) (hK:0<K.size):LIn K (Am w.heap.size) W l v:=by
 have h2:=h.ac
 rw[List.take_length]at h2
 exact h2.done hl hK
end
theorem Ju {n0:Nat} {w:World} {r:Ac} {s:Value} (h:BF n0 w r s):Aj.holds (Am n0) w r s:=Bl.p h.in_
def GV {α:Type} (K:Kd α) (w:World) (l:List α) (e:Ending) (w':World):Prop:=∃v',e= .returned v'∧LIn K (Am w.heap.size) w' l v'∧Below w.heap.size w w'
theorem Cr (l:List Ac) (v:Value) (w:World) (h:LIn Aj Ai w l v) (hc:∀x∈l,x.count≤1048576) (hn:l.length≤1048576):Calls Tryz.prog 87 #[v] w (GV Aj w l):=by
 obtain⟨a,c,rfl⟩:=h.form
 have HL:=Hd h
 have HCt:=Hd hc
 obtain⟨iR,hiR,hz0,hz1,hz2⟩:=Gt
 clear h hc
 go_enter Tryz.func87,Tryz.ntmps87
 go_wp2_with fail
 go_loopw [3,4] (fun v i wr=>∃k:Nat,k≤l.length∧i= .int .i64 k∧Hid (CL Aj 34 w l k v wr)) (fun _ i _=>l.length-(intOf i).toNat)
 case atStart=>exact⟨0,by omega,rfl,CL.start _ _ _ _⟩
 case round=>
  obtain⟨k,hk,rfl,HQ⟩:=hrel
  by_cases hlt:k<l.length
  ·have hki:(k:Int)<(l.length:Int):=by omega
   obtain⟨b,o,r,ha,_,hcs0,hh0⟩:=HL.out.at_ k hlt
   obtain⟨x,hx⟩:∃x,x=l[k]'hlt:=⟨_,rfl⟩
   rw[←hx]at hcs0 hh0
   subst ha
   dsimp only[Aj]at hcs0 r
   have hi1:Au w x r:=AZ.is hh0
   obtain⟨xa,xc,rfl⟩:=hi1.form
   have hd:=hcs0.below HQ.out.bl
   have hcx:x.count≤1048576:=HCt.out x (hx▸List.getElem_mem hlt)
   have HX:=Hd hx
   have HM:=Hd (Mh w x _ wr hi1 HQ.out.bl hcx)
   have x0:wr.cell? ⟨b,o+k*7,none⟩=some (.int .u8 x.kind):=hd.2 0 (show 0<7 by omega)
   have x1:wr.cell? ⟨b,o+k*7+1,none⟩=some (.string x.dep.name):=hd.2 1 (show 1<7 by omega)
   have x2:wr.cell? ⟨b,o+k*7+2,none⟩=some (.int .u8 x.dep.op):=hd.2 2 (show 2<7 by omega)
   have x3:wr.cell? ⟨b,o+k*7+3,none⟩=some (.int .i64 x.dep.ep):=hd.2 3 (show 3<7 by omega)
   have x4:wr.cell? ⟨b,o+k*7+4,none⟩=some (.string x.dep.ver):=hd.2 4 (show 4<7 by omega)
   have x5:wr.cell? ⟨b,o+k*7+5,none⟩=some (.string x.dep.rel):=hd.2 5 (show 5<7 by omega)
   have x6:wr.cell? ⟨b,o+k*7+6,none⟩=some (.slice xa x.n xc):=hd.2 6 (show 6<7 by omega)
   have xl:b<wr.heap.size:=hd.1
   obtain⟨xs,hown,hone⟩:=HQ.out.ac.own
   obtain⟨ao,cp,hve⟩:=Cl hown
   have hll:(l.take k).length=k:=by rw[List.length_take];omega
   subst hve
   rw[hll]at hown HQ
   have HO4:=Hd hown
   have HN4:=Hd hone
   have HLL:=Hd hll
   have HLt:=Hd hlt
   clear hcs0 hh0 hi1 hd hx hown hone hll
   go_wp2_with (first
    |(go_at_call 139;(with_reducible refine HM.out.mono ?_);rintro e w2 ⟨s',rfl,hn2,hb2⟩;obtain⟨sa,sc,rfl⟩:=hn2.form;have HB2:=Hd hb2;have HX2:=Hd (Ju hn2);have HS2:=Hd (HQ.out.below hb2);clear hn2 hb2)
    |(at_builtin;(refine AC _ rfl (.tmp 11) (.tmp 17) _ _ rfl 34 iR _ 7 96 Tryz.underlying26 hiR hz0 hz1 hz2 rfl (by omega) (.slice ao k cp) k xs rfl ((HO4.out.keep fun b hb=>HB2.out.block b (HO4.out.lt b hb)).alloc _) HN4.out (.slice (some ⟨w2.heap.size,0,none⟩) 1 1) 1 (Aj.cells x (Value.slice sa x.n sc)) rfl (C4 w2 x (.slice sa x.n sc) rfl) (by simp only[maxLen];omega) (by omega) ?_);rintro ao' cap' w7 hn1 hn2 hO7 hg7 hat7 hlt7;have HZ7:=Hd (And.intro hO7 (And.intro hg7 hat7));clear hn1 hn2 hO7 hg7 hat7 hlt7)
    |fail)
   have HS7:=Hd (show CL Aj 34 w l (k+1) (.slice ao' (k+1) cap') w7 from(HS2.out.below (Ag w2 (.cells #[.int .u8 x.kind,.string x.dep.name,.int .u8 x.dep.op,.int .i64 x.dep.ep,.string x.dep.ver,.string x.dep.rel,.slice sa x.n sc] 34))).push HLt.out (r:= .slice sa x.n sc) ((HO4.out.keep fun b hb=>HB2.out.block b (HO4.out.lt b hb)).alloc _) HQ.out.bl.size (fun q hq=>(HQ.out.ownB q hq).2) (by rw[←HX.out];exact Co HX2.out (Ag _ _)) (by rw[←HX.out];exact HZ7.out.1) HZ7.out.2.1 HZ7.out.2.2)
   go_roundw
   case rel=>exact⟨k+1,by have:=HLt.out;omega,by go_num,HS7.out⟩
   case measure=>simp[intOf];omega
  ·obtain rfl:k=l.length:=by omega
   have HD:=Hd (HQ.out.done (by omega) (by show 0<7;omega))
   go_wp2_with fail
   go_ret
   exact⟨_,rfl,HD.out,HQ.out.bl⟩
def Rl (ok:World→Nat→Value→Prop) (Fin:List Value→World→Prop) (K M:Nat) (n0:World) (F:List Value) (listed:Array Bool) (a:Act) (w:World):Prop:=
 ∃mid,a=frm F mid []∧mid.length=M∧listed.size=K+1∧(listed.getD K false=false→Below n0.heap.size n0 w∧∀i,i<K→listed.getD i false=true→ok w i ((mid[i]?).getD undef))∧(listed.getD K false=true→(∀i,i<K→listed.getD i false=true)∧Fin mid w)
theorem L2 {ok:World→Nat→Value→Prop} (Fin:List Value→World→Prop) (hmono:∀{w w':World} {i:Nat} {v:Value},Below w.heap.size w w'→ok w i v→ok w' i v) {n K M:Nat} {L:List Value} {n0:World} {ops:Array Oper} {Q:Exit→Act→World→Prop} {id:Nat}
 (hL:L.length=n+M) (hKM:K≤M) (hsz:ops.size=K+1) (deps:List (List Nat))
 (hdst:(ops.toList.map (·.dst))=((List.range K).map fun i=>some (n+i))++ [none])
 (hdeps:((ops.toList.zip deps).all fun x=>x.2.all fun d=>x.1.after.any fun e=>e.on==d && Region.binds .any e)=true) (hdl:deps.length=K+1) (hdK:deps[K]?=some (List.range K))
 (hlow:(ops.toList.zipIdx.all fun x=>x.1.after.all fun e=>decide (e.on<x.2))=true)
 (hstep:∀i o mid w,i<K→ops[i]?=some o→mid.length=M→Below n0.heap.size n0 w→(∀ds,deps[i]?=some ds→∀j∈ds,ok w j ((frm (L.take n) mid []).eval (.tmp (n+j))))→
   Region.wanted o (yielded ops (frm (L.take n) mid []).tmps)=true∧∀Kc:Act→World→Prop,(∀v w',ok w' i v→Below w.heap.size w w'→Kc ((frm (L.take n) mid []).put o.dst v) w')→o.wp Tryz.prog (frm (L.take n) mid []) w Kc Q)
 (hlast:∀o mid w,ops[K]?=some o→mid.length=M→Below n0.heap.size n0 w→(∀i,i<K→ok w i ((frm (L.take n) mid []).eval (.tmp (n+i))))→
   Region.wanted o (yielded ops (frm (L.take n) mid []).tmps)=true∧∀Kc:Act→World→Prop,(∀w',Fin mid w'→Kc (frm (L.take n) mid []) w')→o.wp Tryz.prog (frm (L.take n) mid []) w Kc Q)
 (hK:∀mid W,mid.length=M→Fin mid W→Q .normal (frm (L.take n) mid []) W):
 (Code.region id ops true).wp Tryz.prog Q {tmps:=L.toArray,defers:= []} n0:=by
 rw[←KF n L]
 have hF:(L.take n).length=n:=by rw[List.length_take];omega
 have hm:(L.drop n).length=M:=by rw[List.length_drop];omega
 refine wp_region_any (by kernel_rfl) (D1 (Rl ok Fin K M n0 (L.take n)) (fun listed a w i hinv hi=> ?_) (fun listed a w h hr=> ?_) ops.size _ _ _ (by simp) ?_)
 ·obtain⟨mid,rfl,hm,hl,hs0,hfin⟩:=hinv
  obtain⟨hi1,hun⟩:=DO hi
  obtain⟨o,ho,haft⟩:=DP hi
  have hoL:ops.toList[i]?=some o:=by rw[Array.getElem?_toList];exact ho
  have hiF:listed.getD i false=false:=by rw[Array.getD_eq_getD_getElem?,hun];rfl
  have hdep:∀ds,deps[i]?=some ds→∀x∈ds,listed.getD x false=true:=fun ds hds x hx=>by
   have h5:=List.all_eq_true.1 hdeps (o,ds) (List.mem_of_getElem? (i:=i) (by rw[List.getElem?_zip_eq_some];exact⟨hoL,hds⟩))
   have h6:=List.all_eq_true.1 h5 x hx
   rw[Array.any_eq_true]at h6
   obtain⟨j,hj,h7⟩:=h6
   simp only[Bool.and_eq_true,beq_iff_eq]at h7
   rw[←h7.1]
   exact haft _ (by simp) h7.2
  have hKF:listed.getD K false=false:=by
   cases hc:listed.getD K false with
   |false=>rfl
   |true=>
    by_cases e:i=K
    ·rw[e]at hiF;rw[hiF]at hc;cases hc
    ·have:=(hfin hc).1 i (by omega)
     rw[hiF]at this
     cases this
  obtain⟨hb,hs⟩:=hs0 hKF
  unfold wpOp
  rw[ho]
  by_cases hiK:i<K
  ·have hd:o.dst=some (n+i):=by
    have h4:=congrArg (fun l=>l[i]?) hdst
    rw[List.getElem?_append_left (by simpa using hiK)]at h4
    simp only[List.getElem?_map,hoL,Option.map_some,List.getElem?_range hiK]at h4
    exact Option.some.inj h4
   have hbd:∀x,listed.getD x false=true→x<K:=fun x hx=>by
    by_cases e:x=K
    ·rw[e,hKF]at hx;cases hx
    ·by_cases hx2:x<listed.size
     ·omega
     ·rw[Array.getD_eq_getD_getElem?,Array.getElem?_eq_none (by omega)]at hx
      cases hx
   obtain⟨h1,h2⟩:=hstep i o mid w hiK ho hm hb fun ds hds j hj=>by
    have k2:=hdep ds hds j hj
    rw[DU hF (by have:=hbd j k2;omega)]
    exact hs j (hbd j k2) k2
   simp only[h1,if_true]
   refine Or.inl (h2 _ fun v w' hv hw=> ?_)
   rw[hd]
   refine⟨mid.set i v,BZ hF (by omega) v,by rw[List.length_set];exact hm,by simpa using hl,fun _=>⟨Aa hb hw,fun j hj hlj=> ?_⟩,fun h=> ?_⟩
   ·by_cases hji:j=i
    ·subst hji
     rw[List.getElem?_set_self (by omega)]
     exact hv
    ·rw[List.getElem?_set_ne (fun e=>hji e.symm)]
     refine hmono hw (hs j hj ?_)
     simpa [Array.getD_eq_getD_getElem?,Array.getElem?_setIfInBounds_ne (fun e=>hji e.symm:i≠j)]using hlj
   ·exfalso
    have h10:(listed.setIfInBounds i true).getD K false=listed.getD K false:=by
     simp[Array.getD_eq_getD_getElem?,Array.getElem?_setIfInBounds_ne (by omega:i≠K)]
    rw[h10,hKF]at h
    cases h
  ·obtain rfl:i=K:=by omega
   have hall:∀j,j<i→listed.getD j false=true:=fun j hj=>hdep _ hdK j (List.mem_range.2 hj)
   have hd:o.dst=none:=by
    have h4:=congrArg (fun l=>l[i]?) hdst
    rw[List.getElem?_append_right (by simp)]at h4
    simp only[List.getElem?_map,hoL,Option.map_some,List.length_map,List.length_range,Nat.sub_self,List.getElem?_cons_zero]at h4
    exact Option.some.inj h4
   obtain⟨h1,h2⟩:=hlast o mid w ho hm hb fun j hj=>by
    rw[DU hF (by omega)]
    exact hs j hj (hall j hj)
   simp only[h1,if_true]
   refine Or.inl (h2 _ fun w' hf=>⟨mid,rfl,hm,by simpa using hl,fun h=> ?_,fun _=>⟨fun j hj=> ?_,hf⟩⟩)
   ·exfalso
    simp[Array.getD_eq_getD_getElem?,hl]at h
   ·simpa [Array.getD_eq_getD_getElem?,Array.getElem?_setIfInBounds_ne (by omega:i≠j)]using hall j hj
 ·obtain⟨mid,rfl,h1,h2,_,h4⟩:=h
  have hall:=E5 hlow (by omega) hr
  exact hK mid w h1 (h4 (hall K (by omega))).2
 ·have hrep:∀j,(Array.replicate ops.size false).getD j false=false:=fun j=>by
   rw[Array.getD_eq_getD_getElem?,Array.getElem?_replicate]
   split<;>rfl
  refine⟨_,rfl,hm,by simp[hsz],fun _=>⟨(Below.refl _ n0).drew,fun j _ hj=> ?_⟩,fun h=> ?_⟩
  ·rw[hrep]at hj;cases hj
  ·rw[hrep]at h;cases h
def Hn (deps:List (List Nat)):Nat→Nat→Nat→Bool
 |0,_,_=>false
 |f+1,i,j=>(deps.getD i []).any fun d=>d==j||Hn deps f d j
theorem Ey {deps:List (List Nat)} {P:Nat→Prop} (h:∀i,P i→∀d∈deps.getD i [],P d):∀(f i j:Nat),(∀d∈deps.getD i [],P d)→Hn deps f i j=true→P j
 |0,_,_,_,h2=>by cases h2
 |f+1,i,j,h1,h2=>by
  unfold Hn at h2
  rw[List.any_eq_true]at h2
  obtain⟨d,hd,h3⟩:=h2
  rw[Bool.or_eq_true,beq_iff_eq]at h3
  rcases h3 with rfl|h3
  ·exact h1 d hd
  ·exact Ey h f d j (h d (h1 d hd)) h3
def Er (Q:Exit→Act→World→Prop):List Oper→Act→World→Prop
 | [],a,w=>Q .normal a w
 |o::os,a,w=>o.guard=none∧o.wp Tryz.prog a w (fun a w=>Er Q os a w) Q
structure Q4 (ok:World→Nat→Value→Prop) (Q:Exit→Act→World→Prop) (ops:Array Oper) (deps:List (List Nat)) (K M N:Nat) (n0:World) (F B:List Value) (listed:Array Bool) (a:Act) (w:World):Prop where
 sz:listed.size=N
 cl:∀i,listed.getD i false=true→∀d∈deps.getD i [],listed.getD d false=true
 st:(∃mid,a=frm F mid B∧mid.length=M∧Below n0.heap.size n0 w∧(∀i,K≤i→listed.getD i false=false)∧∀i,i<K→listed.getD i false=true→ok w i ((mid[i]?).getD undef))∨
  ∃m,K<m∧m≤N∧(∀i,i<m→listed.getD i false=true)∧(∀i,m≤i→listed.getD i false=false)∧Er Q (ops.toList.drop m) a w
theorem Gv (n M:Nat) (L:List Value):frm (L.take n) ((L.drop n).take M) (L.drop (n+M))={tmps:=L.toArray,defers:= []}:=by
 unfold frm
 rw[←List.drop_drop,List.append_assoc,List.take_append_drop,List.take_append_drop]
theorem CZ {ok:World→Nat→Value→Prop} (hmono:∀{w w':World} {i:Nat} {v:Value},Below w.heap.size w w'→ok w i v→ok w' i v) {n K M N:Nat} {L:List Value} {n0:World} {ops:Array Oper} {Q:Exit→Act→World→Prop} {id:Nat}
 (hL:n+M≤L.length) (hKM:K≤M) (hsz:ops.size=N) (hKN:K<N) (deps:List (List Nat))
 (hdst:((ops.toList.take K).map (·.dst))=(List.range K).map fun i=>some (n+i))
 (hdeps:((ops.toList.zip deps).all fun x=>x.2.all fun d=>x.1.after.any fun e=>e.on==d && Region.binds .any e)=true) (hdl:deps.length=N)
 (hreach:((List.range N).all fun i=>decide (i<K)||(List.range i).all fun j=>Hn deps N i j)=true)
 (hlow:(ops.toList.zipIdx.all fun x=>x.1.after.all fun e=>decide (e.on<x.2))=true)
 (hstep:∀i o mid w,i<K→ops[i]?=some o→mid.length=M→Below n0.heap.size n0 w→(∀ds,deps[i]?=some ds→∀j∈ds,ok w j ((frm (L.take n) mid (L.drop (n+M))).eval (.tmp (n+j))))→
   Region.wanted o (yielded ops (frm (L.take n) mid (L.drop (n+M))).tmps)=true∧∀Kc:Act→World→Prop,(∀v w',ok w' i v→Below w.heap.size w w'→Kc ((frm (L.take n) mid (L.drop (n+M))).put o.dst v) w')→o.wp Tryz.prog (frm (L.take n) mid (L.drop (n+M))) w Kc Q)
 (hK:∀mid w,mid.length=M→Below n0.heap.size n0 w→(∀i,i<K→ok w i ((frm (L.take n) mid (L.drop (n+M))).eval (.tmp (n+i))))→Er Q (ops.toList.drop K) (frm (L.take n) mid (L.drop (n+M))) w):
 (Code.region id ops true).wp Tryz.prog Q {tmps:=L.toArray,defers:= []} n0:=by
 rw[←Gv n M L]
 have hF:(L.take n).length=n:=by rw[List.length_take];omega
 have hm:((L.drop n).take M).length=M:=by rw[List.length_take,List.length_drop];omega
 have hre:∀i,i<N→K≤i→∀j,j<i→Hn deps N i j=true:=fun i h1 h2 j h3=>by
  have h4:=List.all_eq_true.1 hreach i (List.mem_range.2 h1)
  rw[Bool.or_eq_true]at h4
  rcases h4 with h4|h4
  ·have:=of_decide_eq_true h4
   omega
  ·exact List.all_eq_true.1 h4 j (List.mem_range.2 h3)
 refine wp_region_any (by kernel_rfl) (D1 (Q4 ok Q ops deps K M N n0 (L.take n) (L.drop (n+M))) (fun listed a w i hinv hi=> ?_) (fun listed a w h hr=> ?_) ops.size _ _ _ (by simp) ?_)
 ·obtain⟨hl,hcl,hst⟩:=hinv
  obtain⟨hi1,hun⟩:=DO hi
  obtain⟨o,ho,haft⟩:=DP hi
  have hoL:ops.toList[i]?=some o:=by rw[Array.getElem?_toList];exact ho
  have hiF:listed.getD i false=false:=by rw[Array.getD_eq_getD_getElem?,hun];rfl
  have hiN:i<N:=by omega
  have hdep:∀d∈deps.getD i [],listed.getD d false=true:=fun x hx=>by
   have hds:deps[i]?=some (deps.getD i []):=by rw[List.getD_eq_getElem?_getD,List.getElem?_eq_getElem (by omega)];rfl
   have h5:=List.all_eq_true.1 hdeps (o,deps.getD i []) (List.mem_of_getElem? (i:=i) (by rw[List.getElem?_zip_eq_some];exact⟨hoL,hds⟩))
   have h6:=List.all_eq_true.1 h5 x hx
   rw[Array.any_eq_true]at h6
   obtain⟨j,hj,h7⟩:=h6
   simp only[Bool.and_eq_true,beq_iff_eq]at h7
   rw[←h7.1]
   exact haft _ (by simp) h7.2
  have hset:∀j,j≠i→(listed.setIfInBounds i true).getD j false=listed.getD j false:=fun j hj=>by
   simp[Array.getD_eq_getD_getElem?,Array.getElem?_setIfInBounds_ne (fun e=>hj e.symm:i≠j)]
  have hself:(listed.setIfInBounds i true).getD i false=true:=by
   simp[Array.getD_eq_getD_getElem?,hl,hiN]
  have hcl':∀j,(listed.setIfInBounds i true).getD j false=true→∀d∈deps.getD j [],(listed.setIfInBounds i true).getD d false=true:=fun j hj d hd=>by
   have h1:listed.getD d false=true:=by
    by_cases hji:j=i
    ·subst hji
     exact hdep d hd
    ·exact hcl j (by rw[←hset j hji];exact hj) d hd
   by_cases hdi:d=i
   ·subst hdi
    exact hself
   ·rw[hset d hdi]
    exact h1
  have hbefore:K≤i→∀j,j<i→listed.getD j false=true:=fun hKi j hj=>Ey (P:=fun j=>listed.getD j false=true) hcl N i j hdep (hre i hiN hKi j hj)
  have htail:Er Q (ops.toList.drop i) a w→o.guard=none∧o.wp Tryz.prog a w (fun a w=>Er Q (ops.toList.drop (i+1)) a w) Q:=fun h=>by
   have hlt:i<ops.toList.length:=by rw[Array.length_toList];omega
   rw[List.drop_eq_getElem_cons hlt]at h
   have e:ops.toList[i]=o:=by
    rw[List.getElem?_eq_getElem hlt]at hoL
    exact Option.some.inj hoL
   rw[e]at h
   exact h
  have hrun:o.guard=none→o.wp Tryz.prog a w (fun a w=>Er Q (ops.toList.drop (i+1)) a w) Q→K≤i→(∀j,i≤j→listed.getD j false=false)→Region.wanted o (yielded ops a.tmps)=true∧o.wp Tryz.prog a w (fun a w=>Q4 ok Q ops deps K M N n0 (L.take n) (L.drop (n+M)) (listed.setIfInBounds i true) a w) Q:=fun hg hT hKi hrest=>by
   refine⟨Ad hg,Oper.wp_mono (fun a' w' h'=>⟨by simpa using hl,hcl',Or.inr ⟨i+1,by omega,by omega,fun j hj=> ?_,fun j hj=> ?_,h'⟩⟩) hT⟩
   ·by_cases hji:j=i
    ·subst hji
     exact hself
    ·rw[hset j hji]
     exact hbefore hKi j (by omega)
   ·rw[hset j (by omega)]
    exact hrest j (by omega)
  unfold wpOp
  rw[ho]
  rcases hst with ⟨mid,rfl,hm,hb,hrest,hs⟩|⟨m,hm1,hm2,hlo,hhi,hT⟩
  ·by_cases hiK:i<K
   ·have hd:o.dst=some (n+i):=by
     have h4:=congrArg (fun l=>l[i]?) hdst
     simp only[List.getElem?_map,List.getElem?_take_of_lt hiK,hoL,Option.map_some,List.getElem?_range hiK]at h4
     exact Option.some.inj h4
    obtain⟨h1,h2⟩:=hstep i o mid w hiK ho hm hb fun ds hds j hj=>by
     have k2:=hdep j (by rw[List.getD_eq_getElem?_getD,hds];exact hj)
     have k3:j<K:=Nat.lt_of_not_le fun hh=>by rw[hrest j hh]at k2;cases k2
     rw[DU hF (by omega)]
     exact hs j k3 k2
    simp only[h1,if_true]
    refine Or.inl (h2 _ fun v w' hv hw=>⟨by simpa using hl,hcl',Or.inl ⟨mid.set i v,?_,by rw[List.length_set];exact hm,Aa hb hw,fun j hj=> ?_,fun j hj hlj=> ?_⟩⟩)
    ·rw[hd]
     exact BZ hF (by omega) v
    ·rw[hset j (by omega)]
     exact hrest j hj
    ·by_cases hji:j=i
     ·subst hji
      rw[List.getElem?_set_self (by omega)]
      exact hv
     ·rw[List.getElem?_set_ne (fun e=>hji e.symm)]
      exact hmono hw (hs j hj (by rw[←hset j hji];exact hlj))
   ·obtain rfl:i=K:=by
     apply Nat.le_antisymm _ (Nat.le_of_not_lt hiK)
     apply Nat.le_of_not_lt
     intro hh
     have:=hbefore (by omega) K hh
     rw[hrest K (Nat.le_refl _)]at this
     cases this
    obtain⟨hg,hT⟩:=htail (hK mid w hm hb fun j hj=>by
     rw[DU hF (by omega)]
     exact hs j hj (hbefore (Nat.le_refl _) j hj))
    obtain⟨h1,h2⟩:=hrun hg hT (Nat.le_refl _) hrest
    simp only[h1,if_true]
    exact Or.inl h2
  ·obtain rfl:i=m:=by
    apply Nat.le_antisymm
    ·apply Nat.le_of_not_lt
     intro hh
     have:=hbefore (by omega) m hh
     rw[hhi m (Nat.le_refl _)]at this
     cases this
    ·apply Nat.le_of_not_lt
     intro hh
     rw[hlo i hh]at hiF
     cases hiF
   obtain⟨hg,hT⟩:=htail hT
   obtain⟨h1,h2⟩:=hrun hg hT (by omega) hhi
   simp only[h1,if_true]
   exact Or.inl h2
 ·obtain⟨hl,hcl,hst⟩:=h
  have hall:=E5 hlow (by omega) hr
  rcases hst with ⟨mid,rfl,hm,hb,hrest,hs⟩|⟨m,hm1,hm2,hlo,hhi,hT⟩
  ·have:=hall K (by omega)
   rw[hrest K (Nat.le_refl _)]at this
   cases this
  ·obtain rfl:m=N:=by
    apply Nat.le_antisymm hm2
    apply Nat.le_of_not_lt
    intro hh
    have:=hall m (by omega)
    rw[hhi m (Nat.le_refl _)]at this
    cases this
   rw[List.drop_eq_nil_of_le (by rw[Array.length_toList];omega)]at hT
   exact hT
 ·have hrep:∀j,(Array.replicate ops.size false).getD j false=false:=fun j=>by
   rw[Array.getD_eq_getD_getElem?,Array.getElem?_replicate]
   split<;>rfl
  refine⟨by simp[hsz],fun i hi=> ?_,Or.inl ⟨_,rfl,hm,(Below.refl _ n0).drew,fun j _=>hrep j,fun j _ hj=> ?_⟩⟩
  ·rw[hrep]at hi;cases hi
  ·rw[hrep]at hj;cases hj
theorem Is {P:Program} {w:World} (t tx ty e:TypeId) (i:TypeInfo) (z:Value) (size bytes:Nat) (ht:P.underlying t=some (.slice e)) (hi:P.info? e=some i) (hz:i.zero=some z)
 (hsize:i.size=size) (hby:i.bytes=bytes) (hzs:z.cells.size=size) (hsz:0<size) (g:Nat) (hb:Blk w g e #[])
 (x:Value) (m:Nat) (news:List Value) (hs:Src P size tx x m news w) (h63:m≤maxLen) (hbytes:m*bytes≤140737488355328):
 ∃v' w',(Builtin.append_ #[t,tx] ty #[.slice (some ⟨g,0,none⟩) 0 0,x]).run P w= .ok v' w'∧Own w' e size v' m news∧Below w.heap.size w w'∧(∀k,v'.ownBlock=some k→k=g∨w.heap.size≤k):=by
 have hown:Own w e size (.slice (some ⟨g,0,none⟩) 0 0) 0 []:=by
  have hcur:Own w e size (.slice (some ⟨g,0,none⟩) 0 0) 0 []:=⟨by simp,.inr ⟨g,0,0,#[],rfl,hb,Nat.le_refl _,by decide,by simp,fun j hj=>absurd hj (Nat.not_lt_zero j)⟩⟩
  exact hcur
 obtain⟨v',w',h1,h2,h3,h4,h5⟩:=Ew (P:=P) (w:=w) t tx ty e i z size bytes ht hi hz hsize hby hzs hsz _ 0 [] hown (fun u hu=>by cases hu) x m news hs (by omega) (by rw[Nat.zero_add];exact hbytes)
 rw[Nat.zero_add,List.nil_append]at h2
 by_cases hm:m=0
 ·subst hm
  have hn:news= []:=List.eq_nil_of_length_eq_zero (by simpa using hs.newsLen)
  subst hn
  have hr:=run_append_room_src (P:=P) w t tx ty e i ht hi g 0 0 0 x 0 [] (by rw[hsize];exact hs) (Nat.le_refl _) (fun j hj=>by simp at hj) (fun j _=>hb.frozen _)
  rw[h1]at hr
  injection hr with e1 e2
  subst e1
  have e3:w'=w:=e2
  subst e3
  exact⟨_,_,h1,h2,Below.refl _ _,fun k hk=> .inl (by simp[Value.ownBlock]at hk;exact hk.symm)⟩
 ·have hold:(Builtin.firstCells i.size 0 (.slice (some ⟨g,0,none⟩) 0 0)).run P w.drew= .ok ([]:List Value).toArray w.drew:=
   hsize▸(Own.src (P:=P) (tx:=t) (w:=w.drew) hown.drew ht (fun u hu=>by cases hu)).cells
  have hr:=run_append_grow_src (P:=P) w t tx ty e i z ht hi hz (some ⟨g,0,none⟩) 0 0 [] hold x m news (hsize▸hs) (by omega) (by simp only[maxLen]at h63;omega) (growslice_fits (by omega) (by rw[hby,Nat.zero_add];exact hbytes))
  rw[h1]at hr
  injection hr with e1 e2
  subst e1 e2
  refine⟨_,_,h1,h2,(Below.refl _ w).drew.alloc (Nat.le_refl _) _,fun k hk=> .inr ?_⟩
  simp only[Value.ownBlock,Option.some.injEq]at hk
  omega
theorem DJ {P:Program} {w:World} {o:Oper} {a:Act} {K:Act→World→Prop} {Q:Exit→Act→World→Prop} (s sx:Operand) (t tx:TypeId)
 (ho:o.op= .call {callee:= .builtin .append,args:= #[s,sx],argTypes:= #[t,tx]})
 (e:TypeId) (i:TypeInfo) (z:Value) (size bytes:Nat) (ht:P.underlying t=some (.slice e)) (hi:P.info? e=some i) (hz:i.zero=some z)
 (hsize:i.size=size) (hby:i.bytes=bytes) (hzs:z.cells.size=size) (hsz:0<size) (g:Nat) (hv:a.eval s= .slice (some ⟨g,0,none⟩) 0 0) (hb:Blk w g e #[])
 (x:Value) (m:Nat) (news:List Value) (hx:a.eval sx=x) (hs:Src P size tx x m news w) (h63:m≤maxLen) (hbytes:m*bytes≤140737488355328)
 (h:∀v' w',Own w' e size v' m news→Below w.heap.size w w'→(∀k,v'.ownBlock=some k→k=g∨w.heap.size≤k)→K (a.put o.dst v') w'):o.wp P a w K Q:=by
 obtain⟨v',w',hrun,h2,h3,h4⟩:=Is (P:=P) (w:=w) t tx o.type e i z size bytes ht hi hz hsize hby hzs hsz g hb x m news hs h63 hbytes
 unfold Oper.wp execOp
 simp only[ho,resolve,invoke,builtin,Sem.run_bind,Sem.run_pure,Result.andThen_ok,List.map_toArray,List.map_cons,List.map_nil,hv,hx,hrun]
 exact h v' w' h2 h3 h4
end Go.Proofs.YtdpjjnbelgaagaaGreatDoor
