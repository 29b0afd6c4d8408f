/- The library's strings.IndexByte and strings.HasPrefix at this dump (laid by the shelf's tool in plain words). Conditions: none. -/
import Derived.Shelf.Small.Strs
import Derived.Shelf.Strings.Search1
import Derived.Shelf.Strings.Prefix
import Derived.Test.YtdpjjnbelgaagaaGreatDoorRows
import Derived.WalkKit
import Derived.ProofKit
import Derived.OpenShut
import Derived.WalkLawsBesides
import Derived.WalkSpells
import Derived.Lib.Hide
import Derived.Outline
import Derived.Deep.AppendSrc
import Derived.Deep.Draws
import Derived.Deep.MidRow
import Derived.Laws.Tables
import Derived.Laws.Rows
import Derived.Laws.IdiomCopy
import Derived.Laws.IdiomStrings
import Derived.Deep.Upon
import Derived.Lib.IndexAny
import Derived.Deep.Slices
import Derived.WalkMore
namespace Go.Proofs.YtdpjjnbelgaagaaGreatDoor
open Go.Shelf
def JA:Go.Shelf.Ren:=⟨fun|137=>113|217=>157|266=>178|n=>n,fun|9=>9|5=>5|3=>3|n=>n,fun|n=>n⟩
theorem Pn:Go.Proofs.Lays.n137 Tryz.prog JA:={
 mixed:=by kernel_rfl
 f137:=Tryz.func113.trans (congrArg some (by kernel_rfl))
 f217:=Tryz.func157.trans (congrArg some (by kernel_rfl))
 f266:=Tryz.func178.trans (congrArg some (by kernel_rfl))
 t3:=Tryz.underlying3
 a3:=Tryz.isAgg3
 z3:=Tryz.sizeOf3
 v3:=Tryz.zeroValue3
 t5:=Tryz.underlying5
 a5:=Tryz.isAgg5
 z5:=Tryz.sizeOf5
 v5:=Tryz.zeroValue5
 t9:=Tryz.underlying9
 a9:=Tryz.isAgg9
 z9:=Tryz.sizeOf9
 v9:=Tryz.zeroValue9}
open Go.RowKit in
theorem strings_IndexByte (s:ByteArray) (c:Int) (w:World):
 Calls Tryz.prog 113 #[.string s,.int .u8 c] w fun e w'=>e= .returned (.int .i64 (Lib.indexByte s.data.toList c.toNat.toUInt8))∧w'=w:=Any.strings_IndexByte Pn s c w
open Go.RowKit Go.Lib in
def KB:Go.Shelf.Ren:=⟨fun|99=>114|206=>158|n=>n,fun|9=>9|4=>4|3=>3|n=>n,fun|n=>n⟩
theorem Qx:Go.Proofs.Lays.n99 Tryz.prog KB:={
 mixed:=by kernel_rfl
 f99:=Tryz.func114.trans (congrArg some (by kernel_rfl))
 f206:=Tryz.func158.trans (congrArg some (by kernel_rfl))
 t3:=Tryz.underlying3
 a3:=Tryz.isAgg3
 z3:=Tryz.sizeOf3
 v3:=Tryz.zeroValue3
 t4:=Tryz.underlying4
 a4:=Tryz.isAgg4
 z4:=Tryz.sizeOf4
 v4:=Tryz.zeroValue4
 t9:=Tryz.underlying9
 a9:=Tryz.isAgg9
 z9:=Tryz.sizeOf9
 v9:=Tryz.zeroValue9}
theorem strings_HasPrefix (s p:ByteArray) (w:World):
 Calls Tryz.prog 114 #[.string s,.string p] w fun e w'=>e= .returned (.bool (Lib.hasPrefix s.data.toList p.data.toList))∧w'=w:=Any.strings_HasPrefix Qx s p w
open Go.ChangeShapes Go.WideShapes Go.ChangeAt Go.RowKit
abbrev nV:Value:=.slice none 0 0
theorem Hd {p:Prop}(h:p):Hid p:=Lib.hid h
theorem D8 {a b c:World} (h:Below a.heap.size a b) (k:Below b.heap.size b c):Below a.heap.size a c:=h.trans (k.mono h.size)
theorem GQ {B:Nat} {a w:World} (h:Below B a w) {g:Nat} (hg:B≤g) (cs:Array Value):Below B a (w.setRow g cs):=
 h.trans ⟨rfl,rfl,rfl,by simp,fun k hk=>setRow_other w g k cs (by omega)⟩
theorem AD {B:Nat} {a w:World} (h:Below B a w) (n:Nat):Below B a (w.drewN n):=⟨h.os,h.tape,h.output,h.size,h.block⟩
structure Ae (F:Nat→Prop) (w w':World):Prop where
 os:w'.os=w.os
 tape:w'.tape=w.tape
 output:w'.output=w.output
 size:w.heap.size≤w'.heap.size
 block:∀k,k<w.heap.size→¬F k→w'.heap[k]?=w.heap[k]?
section
variable {F G:Nat→Prop} {a b c w w':World}
theorem Ae.refl (F:Nat→Prop) (w:World):Ae F w w:=⟨rfl,rfl,rfl,Nat.le_refl _,fun _ _ _=>rfl⟩
theorem Ae.trans (h:Ae F a b) (k:Ae G b c) (hG:∀x,x<a.heap.size→G x→F x):Ae F a c:=
 ⟨k.os.trans h.os,k.tape.trans h.tape,k.output.trans h.output,Nat.le_trans h.size k.size,
   fun x hx hF=>(k.block x (Nat.lt_of_lt_of_le hx h.size) fun g=>hF (hG x hx g)).trans (h.block x hx hF)⟩
theorem Ae.mono (h:Ae F a b) (hG:∀x,x<a.heap.size→F x→G x):Ae G a b:=
 ⟨h.os,h.tape,h.output,h.size,fun x hx hg=>h.block x hx fun f=>hg (hG x hx f)⟩
theorem Ae.below {B:Nat} (h:Ae F a b) (hB:B≤a.heap.size) (hF:∀x,x<B→¬F x):Below B a b:=
 ⟨h.os,h.tape,h.output,h.size,fun k hk=>h.block k (by omega) (hF k hk)⟩
theorem Ae.of_below (h:Below a.heap.size a b) (F:Nat→Prop):Ae F a b:=⟨h.os,h.tape,h.output,h.size,fun k hk _=>h.block k hk⟩
theorem Ae.of_grown {row:Option Nat} (h:a.grownBy b row) (hF:∀k,row=some k→F k):Ae F a b:=
 ⟨h.os,h.tape,h.output,h.size,fun k hk hf=>h.block k hk fun e=>hf (hF k e.symm)⟩
theorem Ae.drew (h:Ae F a w):Ae F a w.drew:=⟨h.os,h.tape,h.output,h.size,h.block⟩
theorem Ae.drewN (h:Ae F a w) (n:Nat):Ae F a (w.drewN n):=⟨h.os,h.tape,h.output,h.size,h.block⟩
theorem Ae.alloc (h:Ae F a w) (o:Obj):Ae F a (w.alloc o):=
 h.trans (G:=fun _=>False) ⟨rfl,rfl,rfl,by simp,fun k hk _=>Below.heap_alloc _ _ _ hk⟩ fun _ _ f=>f.elim
theorem Ae.setCell (h:Ae F a w) {p:Addr} (hp:p.block<a.heap.size→F p.block) (u:Value):Ae F a (w.setCell p u):=
 h.trans (G:=fun k=>k=p.block) ⟨rfl,rfl,rfl,by simp[World.setCell],fun k _ hk=>Below.heap_setCell _ _ _ _ hk⟩ fun x hx e=>e▸hp (e▸hx)
theorem Ae.setRow (h:Ae F a w) {g:Nat} (hg:g<a.heap.size→F g) (cs:Array Value):Ae F a (w.setRow g cs):=
 h.trans (G:=fun k=>k=g) ⟨rfl,rfl,rfl,by simp,fun k _ hk=>setRow_other w g k cs hk⟩ fun x hx e=>e▸hg (e▸hx)
theorem Ae.cell (h:Ae F a b) {p:Addr} (hp:p.block<a.heap.size) (hF:¬F p.block):b.cell? p=a.cell? p:=World.cell?_of_block (w:=a) (h.block p.block hp hF)
theorem Ae.frozen (h:Ae F a b) {p:Addr} (hp:p.block<a.heap.size) (hF:¬F p.block):b.frozen? p=a.frozen? p:=World.frozen?_of_block (w:=a) (h.block p.block hp hF)
end
def Blk (w:World) (g:Nat) (t:TypeId) (cs:Array Value):Prop:=w.heap[g]?=some (.cells cs t (0,0))
section
variable {w w':World} {g:Nat} {t:TypeId} {cs:Array Value}
theorem Blk.lt (h:Blk w g t cs):g<w.heap.size:=by
 rcases Nat.lt_or_ge g w.heap.size with hlt|hge
 ·exact hlt
 ·unfold Blk at h;rw[Array.getElem?_eq_none hge]at h;cases h
theorem Blk.cell (h:Blk w g t cs) (i:Nat):w.cell? ⟨g,i,none⟩=cs[i]?:=cell_of_row w g i cs t (0,0) h
theorem Blk.frozen (h:Blk w g t cs) (i:Nat):w.frozen? ⟨g,i,none⟩=false:=by
 unfold Blk at h
 simp[World.frozen?,h]
theorem Blk.new (w:World) (t:TypeId) (cs:Array Value):Blk (w.alloc (.cells cs t)) w.heap.size t cs:=heap_alloc_new w _
theorem Blk.drew (h:Blk w g t cs):Blk w.drew g t cs:=h
theorem Blk.drewN (h:Blk w g t cs) (n:Nat):Blk (w.drewN n) g t cs:=h
theorem Blk.alloc (h:Blk w g t cs) (o:Obj):Blk (w.alloc o) g t cs:=(Below.heap_alloc w o g h.lt).trans h
theorem Blk.set_ (h:Blk w g t cs) (i:Nat) (u:Value):Blk (w.setCell ⟨g,i,none⟩ u) g t (cs.setIfInBounds i u):=by
 unfold Blk at h ⊢
 simp[World.setCell,Array.getElem?_modify,h]
theorem Blk.row (h:Blk w g t cs) (cs':Array Value):Blk (w.setRow g cs') g t cs':=setRow_heap w g cs _ t _ h
theorem Blk.far (h:Blk w g t cs) {p:Addr} (hp:g≠p.block) (u:Value):Blk (w.setCell p u) g t cs:=(Below.heap_setCell w p u g hp).trans h
theorem Blk.keep (h:Blk w g t cs) (hb:w'.heap[g]?=w.heap[g]?):Blk w' g t cs:=hb.trans h
theorem Blk.below {B:Nat} (h:Blk w g t cs) (hb:Below B w w') (hg:g<B):Blk w' g t cs:=(hb.block g hg).trans h
theorem Blk.grown {row:Option Nat} (h:Blk w g t cs) (hb:w.grownBy w' row) (hg:some g≠row):Blk w' g t cs:=(hb.block g h.lt hg).trans h
theorem Blk.touch {F:Nat→Prop} (h:Blk w g t cs) (hb:Ae F w w') (hg:¬F g):Blk w' g t cs:=(hb.block g h.lt hg).trans h
theorem Blk.ne_ {g':Nat} {t':TypeId} {cs':Array Value} (h:Blk w g t cs) (h':Blk w g' t' cs') (hne:t≠t'):g≠g':=by
 rintro rfl
 unfold Blk at h h'
 rw[h]at h'
 injection h' with h'
 injection h' with _ ht
 exact hne ht
theorem Blk.uniq {t':TypeId} {cs':Array Value} (h:Blk w g t cs) (h':Blk w g t' cs'):t=t'∧cs=cs':=by
 unfold Blk at h h'
 rw[h]at h'
 injection h' with h'
 injection h' with hc ht
 exact⟨ht,hc⟩
end
def Own (w:World) (e:TypeId) (size:Nat) (v:Value) (n:Nat) (xs:List Value):Prop:=
 xs.length=n*size∧((v= .slice none 0 0∧n=0)∨
  ∃g off cap cur,v= .slice (some ⟨g,off,none⟩) n cap∧Blk w g e cur∧n≤cap∧cap≤maxLen∧off+cap*size≤cur.size∧∀j,j<xs.length→cur[off+j]?=xs[j]?)
section
variable {w w':World} {e:TypeId} {size:Nat} {v:Value} {n:Nat} {xs:List Value}
theorem Own.nil (w:World) (e:TypeId) (size:Nat):Own w e size nV 0 []:=⟨by simp,.inl ⟨rfl,rfl⟩⟩
theorem Own.lt (h:Own w e size v n xs):∀k,v.ownBlock=some k→k<w.heap.size:=by
 intro k hk
 rcases h.2 with ⟨rfl,_⟩|⟨g,off,cap,cur,rfl,hb,_⟩
 ·simp[Value.ownBlock]at hk
 ·simp only[Value.ownBlock,Option.some.injEq]at hk
  exact hk▸hb.lt
theorem Own.blk (h:Own w e size v n xs) {k:Nat} (hk:v.ownBlock=some k):∃cur,Blk w k e cur:=by
 rcases h.2 with ⟨rfl,_⟩|⟨g,off,cap,cur,rfl,hb,_⟩
 ·simp[Value.ownBlock]at hk
 ·simp only[Value.ownBlock,Option.some.injEq]at hk
  exact⟨cur,hk▸hb⟩
theorem Own.keep (h:Own w e size v n xs) (hk:∀k,v.ownBlock=some k→w'.heap[k]?=w.heap[k]?):Own w' e size v n xs:=by
 obtain⟨h1,h2⟩:=h
 refine⟨h1,?_⟩
 rcases h2 with h2|⟨g,off,cap,cur,rfl,hb,r⟩
 ·exact .inl h2
 ·exact .inr ⟨g,off,cap,cur,rfl,hb.keep (hk g rfl),r⟩
theorem Own.drew (h:Own w e size v n xs):Own w.drew e size v n xs:=h
theorem Own.drewN (h:Own w e size v n xs) (k:Nat):Own (w.drewN k) e size v n xs:=h
theorem Own.alloc (h:Own w e size v n xs) (o:Obj):Own (w.alloc o) e size v n xs:=h.keep fun k hk=>Below.heap_alloc w o k (h.lt k hk)
theorem Own.far (h:Own w e size v n xs) {p:Addr} (hp:v.ownBlock≠some p.block) (u:Value):Own (w.setCell p u) e size v n xs:=
 h.keep fun k hk=>Below.heap_setCell w p u k fun e'=>hp (e'▸hk)
theorem Own.below {B:Nat} (h:Own w e size v n xs) (hb:Below B w w') (hB:∀k,v.ownBlock=some k→k<B):Own w' e size v n xs:=h.keep fun k hk=>hb.block k (hB k hk)
theorem Own.new (h:Own w e size v n xs) (hb:Below w.heap.size w w'):Own w' e size v n xs:=h.below hb h.lt
theorem Own.grown {row:Option Nat} (h:Own w e size v n xs) (hb:w.grownBy w' row) (hg:v.ownBlock=none∨v.ownBlock≠row):Own w' e size v n xs:=
 h.keep fun k hk=>hb.block k (h.lt k hk) (by rcases hg with hg|hg<;>rw[hk]at hg; ·cases hg
                                             exact hg)
theorem Own.touch {F:Nat→Prop} (h:Own w e size v n xs) (hb:Ae F w w') (hg:∀k,v.ownBlock=some k→¬F k):Own w' e size v n xs:=h.keep fun k hk=>hb.block k (h.lt k hk) (hg k hk)
theorem Own.ne_blk {g:Nat} {t:TypeId} {cs:Array Value} (h:Own w e size v n xs) (hg:Blk w g t cs) (hne:e≠t):v.ownBlock≠some g:=by
 intro he
 obtain⟨cur,hb⟩:=h.blk he
 exact hb.ne_ hg hne rfl
theorem Own.form (h:Own w e size v n xs):∃(ao:Option Addr) (cap:Nat),v= .slice ao n cap∧n≤cap∧cap≤maxLen∧
 (0<n→∃g off,ao=some ⟨g,off,none⟩∧(∀j,j<xs.length→w.cell? ⟨g,off+j,none⟩=xs[j]?)∧(∀j,w.frozen? ⟨g,j,none⟩=false)∧g<w.heap.size):=by
 rcases h.2 with ⟨rfl,rfl⟩|⟨g,off,cap,cur,rfl,hb,hnc,hcm,_,hcell⟩
 ·exact⟨none,0,rfl,Nat.le_refl _,Nat.zero_le _,fun h=>absurd h (by omega)⟩
 ·exact⟨_,cap,rfl,hnc,hcm,fun _=>⟨g,off,rfl,fun j hj=>(hb.cell _).trans (hcell j hj),fun j=>hb.frozen j,hb.lt⟩⟩
theorem Own.src {P:Program} {tx e':TypeId} (h:Own w e size v n xs) (hk:P.underlying tx=some (.slice e')) (h1:∀u∈xs,u.oneCell'=true):Src P size tx v n xs w:=by
 rcases h.2 with ⟨rfl,rfl⟩|⟨g,off,cap,cur,rfl,hb,hnc,hcm,_,hcell⟩
 ·have hx:xs= []:=List.eq_nil_of_length_eq_zero (by simpa using h.1)
  subst hx
  exact Src.ofNil w hk 0
 ·refine Src.ofSlice w hk ⟨g,off,none⟩ n cap xs h.1 (fun j u hu=> ?_) h1
  have hj:j<xs.length:=(List.getElem?_eq_some_iff.1 hu).1
  have ha:(⟨g,off,none⟩:Addr).add j=⟨g,off+j,none⟩:=by unfold Addr.add;split<;>simp_all
  rw[ha,hb.cell,hcell j hj,hu]
theorem Own.made (w:World) (e:TypeId) (size:Nat) (cur:Array Value) (n:Nat) (hs:cur.size=n*size) (hm:n≤maxLen):Own (w.alloc (.cells cur e)) e size (.slice (some ⟨w.heap.size,0,none⟩) n n) n cur.toList:=
 ⟨by simpa using hs,.inr ⟨_,0,n,cur,rfl,Blk.new w e cur,Nat.le_refl _,hm,by omega,fun j hj=>by simp⟩⟩
theorem Own.of_blk {g:Nat} {cur:Array Value} (hb:Blk w g e cur) (n:Nat) (hs:cur.size=n*size) (hm:n≤maxLen):Own w e size (.slice (some ⟨g,0,none⟩) n n) n cur.toList:=
 ⟨by simpa using hs,.inr ⟨_,0,n,cur,rfl,hb,Nat.le_refl _,hm,by omega,fun j hj=>by simp⟩⟩
end
theorem Ij {B H:Nat} {u v':Value} {w':World} {Q:Nat→Prop} (hv:∀k,u.ownBlock=some k→B≤k∧Q k) (hat:v'.ownBlock=u.ownBlock∨v'.ownBlock=some H) (hH:B≤H) (hlt:∀k,v'.ownBlock=some k→k<w'.heap.size):
 ∀k,v'.ownBlock=some k→B≤k∧k<w'.heap.size:=fun k hk=>⟨by
 rcases hat with e|e
 ·exact(hv k (e▸hk)).1
 ·rw[e]at hk
  injection hk with hk
  omega,hlt k hk⟩
def Rd (w:World) (Pb:Nat→Prop) (v:Value) (n:Nat) (xs:List Value):Prop:=
 xs.length=n∧∃ao cap,v= .slice ao n cap∧n≤cap∧cap≤maxLen∧(0<n→∃g off,ao=some ⟨g,off,none⟩∧Pb g∧g<w.heap.size∧∀j,j<n→w.cell? ⟨g,off+j,none⟩=xs[j]?)
section
variable {w w':World} {Pb Qb:Nat→Prop} {v:Value} {n:Nat} {xs:List Value}
theorem Rd.keep (h:Rd w Pb v n xs) (hs:w.heap.size≤w'.heap.size) (hk:∀g,Pb g→g<w.heap.size→∀j,w'.cell? ⟨g,j,none⟩=w.cell? ⟨g,j,none⟩):Rd w' Pb v n xs:=by
 obtain⟨h1,ao,cap,rfl,h2,h3,h4⟩:=h
 refine⟨h1,ao,cap,rfl,h2,h3,fun hn=> ?_⟩
 obtain⟨g,off,rfl,hp,hg,hc⟩:=h4 hn
 exact⟨g,off,rfl,hp,by omega,fun j hj=>(hk g hp hg _).trans (hc j hj)⟩
theorem Rd.touch {F:Nat→Prop} (h:Rd w Pb v n xs) (ht:Ae F w w') (hF:∀g,Pb g→¬F g):Rd w' Pb v n xs:=
 h.keep ht.size fun g hp hg j=>ht.cell (p:=⟨g,j,none⟩) hg (hF g hp)
theorem Rd.mono (h:Rd w Pb v n xs) (hq:∀g,Pb g→g<w.heap.size→Qb g):Rd w Qb v n xs:=by
 obtain⟨h1,ao,cap,rfl,h2,h3,h4⟩:=h
 refine⟨h1,ao,cap,rfl,h2,h3,fun hn=> ?_⟩
 obtain⟨g,off,rfl,hp,hg,hc⟩:=h4 hn
 exact⟨g,off,rfl,hq g hp hg,hg,hc⟩
theorem Own.rd {e:TypeId} (h:Own w e 1 v n xs) (hp:∀k,v.ownBlock=some k→Pb k):Rd w Pb v n xs:=by
 have hl:xs.length=n:=by simpa using h.1
 obtain⟨ao,cap,rfl,h1,h2,h3⟩:=h.form
 refine⟨hl,ao,cap,rfl,h1,h2,fun hn=> ?_⟩
 obtain⟨g,off,rfl,hc,_,hg⟩:=h3 hn
 exact⟨g,off,rfl,hp g rfl,hg,fun j hj=>hc j (by omega)⟩
theorem Rd.src {P:Program} {tx e':TypeId} (h:Rd w Pb v n xs) (hk:P.underlying tx=some (.slice e')) (h1:∀u∈xs,u.oneCell'=true):Src P 1 tx v n xs w:=by
 obtain⟨hl,ao,cap,rfl,_,_,h4⟩:=h
 rcases Nat.eq_zero_or_pos n with h0|h0
 ·subst h0
  have hx:xs= []:=List.eq_nil_of_length_eq_zero hl
  subst hx
  cases ao with
  |none=>exact Src.ofNil w hk cap
  |some a=>exact Src.ofSlice w hk a 0 cap [] rfl (fun j u hu=>by simp at hu) h1
 ·obtain⟨g,off,rfl,_,_,hc⟩:=h4 h0
  refine Src.ofSlice w hk ⟨g,off,none⟩ n cap xs (by simpa using hl) (fun j u hu=> ?_) h1
  have hj:j<xs.length:=(List.getElem?_eq_some_iff.1 hu).1
  have ha:(⟨g,off,none⟩:Addr).add j=⟨g,off+j,none⟩:=by unfold Addr.add;split<;>simp_all
  rw[ha,hc j (by omega),hu]
end
section
variable {P:Program} (w:World)
theorem CN (g:Nat):∀(vs:List Value) (o:Nat) (w:World),(w.setCells g o vs).heap.size=w.heap.size
 | [],_,_=>rfl
 |v::r,o,w=>by rw[World.setCells,CN g r];simp[World.setCell]
theorem Dc (g:Nat):∀(vs:List Value) (o:Nat) (w:World),(w.setCells g o vs).tape=w.tape
 | [],_,_=>rfl
 |v::r,o,w=>by rw[World.setCells,Dc g r];rfl
def Dg (cur:Array Value):Nat→List Value→Array Value
 |_,[]=>cur
 |o,v::r=>Dg (cur.setIfInBounds o v) (o+1) r
theorem Dd:∀(vs:List Value) (o:Nat) (cur:Array Value),(Dg cur o vs).size=cur.size
 | [],_,_=>rfl
 |v::r,o,cur=>by rw[Dg,Dd r];simp
theorem Du:∀(vs:List Value) (o:Nat) (cur:Array Value) (i:Nat),o+vs.length≤cur.size→(Dg cur o vs)[i]?=if o≤i∧i<o+vs.length then vs[i-o]? else cur[i]?
 | [],o,cur,i,_=>by
   rw[if_neg (by simp only[List.length_nil];omega)]
   rfl
 |v::r,o,cur,i,h=>by
  simp only[List.length_cons]at h
  rw[Dg,Du r (o+1) _ i (by simp;omega)]
  by_cases h1:o=i
  ·subst h1
   have hlt:o<cur.size:=by omega
   rw[if_neg (by omega),if_pos (by simp only[List.length_cons];omega)]
   simp[hlt]
  ·by_cases h2:o+1≤i∧i<o+1+r.length
   ·rw[if_pos h2,if_pos (by simp only[List.length_cons];omega)]
    have:i-o=(i-(o+1))+1:=by omega
    rw[this,List.getElem?_cons_succ]
   ·rw[if_neg h2,if_neg (by simp only[List.length_cons];omega),Array.getElem?_setIfInBounds_ne h1]
theorem Blk.setCells {g:Nat} {t:TypeId}:∀(vs:List Value) (o:Nat) {w:World} {cs:Array Value},Blk w g t cs→Blk (w.setCells g o vs) g t (Dg cs o vs)
 | [],_,_,_,h=>h
 |v::r,o,_,_,h=>Blk.setCells r (o+1) (h.set_ o v)
theorem Ew (t tx ty e:TypeId) (i:TypeInfo) (z:Value) (size bytes:Nat) (ht:P.underlying t=some (.slice e)) (hi:P.info? e=some i) (hz:i.zero=some z)
 (hsize:i.size=size) (hby:i.bytes=bytes) (hzs:z.cells.size=size) (hsz:0<size)
 (v:Value) (n:Nat) (xs:List Value) (hown:Own w e size v n xs) (h0:∀u∈xs,u.oneCell'=true)
 (x:Value) (m:Nat) (news:List Value) (hs:Src P size tx x m news w)
 (h63:n+m≤maxLen) (hbytes:(n+m)*bytes≤140737488355328):
 ∃v' w',(Builtin.append_ #[t,tx] ty #[v,x]).run P w= .ok v' w'∧Own w' e size v' (n+m) (xs++news)∧w.grownBy w' v.ownBlock∧(v'.ownBlock=v.ownBlock∨v'.ownBlock=some w.heap.size)∧
  (∀k,v'.ownBlock=some k→k<w'.heap.size):=by
 subst hsize
 subst hby
 have hsmall:n+m≤9223372036854775807:=by simp only[maxLen]at h63;omega
 have hlen:(xs++news).length=(n+m)*i.size:=by rw[List.length_append,hown.1,hs.newsLen,Nat.add_mul]
 have grown:∀old:Nat,old<n+m→
  Own (w.drew.alloc (.cells ((xs++news).toArray++Builtin.zeroCells z.cells (grownCap w (n+m) old e-(n+m))) e)) e i.size
   (.slice (some ⟨w.heap.size,0,none⟩) (n+m) (grownCap w (n+m) old e)) (n+m) (xs++news):=by
  intro old ho
  have hge:=grownCap_ge w (n+m) old e
  have hcm:grownCap w (n+m) old e≤maxLen:=grownCap_le_maxLen w (n+m) old e h63
  refine⟨hlen,.inr ⟨w.heap.size,0,_,_,rfl,Blk.new w.drew e _,hge,hcm,?_,fun j hj=> ?_⟩⟩
  ·simp only[Array.size_append,List.size_toArray,size_zeroCells,hzs,hlen,←Nat.add_mul,Nat.zero_add]
   exact Nat.mul_le_mul_right _ (by omega)
  ·simp only[Nat.zero_add]
   rw[Array.getElem?_append_left (by simpa using hj)]
   simp
 rcases hown.2 with ⟨rfl,rfl⟩|⟨g,off,cap,cur,rfl,hb,hnc,hcm,hcs,hcell⟩
 ·have hx:xs= []:=List.eq_nil_of_length_eq_zero (by simpa using hown.1)
  subst hx
  by_cases hm:m=0
  ·subst hm
   have hn:news= []:=List.eq_nil_of_length_eq_zero (by simpa using hs.newsLen)
   subst hn
   refine⟨.slice none 0 0,w,?_,Own.nil w e i.size,⟨rfl,rfl,rfl,Nat.le_refl _,fun _ _ _=>rfl⟩,.inl rfl,fun k hk=>by simp[Value.ownBlock]at hk⟩
   rcases hs.kind with ⟨e',hk⟩|hk<;>simp[Builtin.append_,run_underlying ht,run_underlying hk,sizeOf,typeInfo,hi,hs.len,hs.cells]
  ·have hold:(Builtin.firstCells i.size 0 nV).run P w.drew= .ok ([]:List Value).toArray w.drew:=run_firstCells_none w.drew i.size 0 0 0
   have hr:=run_append_grow_src (P:=P) w t tx ty e i z ht hi hz none 0 0 [] hold x m news hs (by omega) (by omega) (growslice_fits (by omega) hbytes)
   have hgr:=grown 0 (by omega)
   refine⟨_,_,hr,hgr,⟨rfl,rfl,rfl,by simp,fun k hk _=>Below.heap_alloc w.drew _ k hk⟩,.inr rfl,fun k hk=> ?_⟩
   simp only[Value.ownBlock,Option.some.injEq]at hk
   subst hk
   simp
 ·by_cases hroom:n+m≤cap
  ·have e1:n*i.size+m*i.size≤cap*i.size:=by rw[←Nat.add_mul];exact Nat.mul_le_mul_right _ hroom
   have hnl:=hs.newsLen
   have hr:=run_append_room_src (P:=P) w t tx ty e i ht hi g off n cap x m news hs hroom
    (fun j hj=>by rw[hb.cell,Array.getElem?_eq_getElem (by omega)];rfl) (fun j _=>hb.frozen _)
   refine⟨_,_,hr,⟨hlen,.inr ⟨g,off,cap,_,rfl,hb.setCells news (off+n*i.size),hroom,hcm,by rw[Dd];exact hcs,fun j hj=> ?_⟩⟩,
    ⟨World.os_setCells w g _ news,Dc g news _ w,World.output_setCells w g _ news,by rw[CN];exact Nat.le_refl _,fun k hk hne=>World.heap_setCells_other w g _ news hk (fun e=>hne (by rw[e];rfl))⟩,.inl rfl,fun k hk=> ?_⟩
   ·rw[Du news _ cur _ (by omega)]
    rw[hlen,Nat.add_mul]at hj
    have hx:=hown.1
    by_cases hj2:j<xs.length
    ·rw[if_neg (by omega),List.getElem?_append_left hj2]
     exact hcell j hj2
    ·rw[if_pos (by omega),List.getElem?_append_right (by omega)]
     congr 1
     omega
   ·simp only[Value.ownBlock,Option.some.injEq]at hk
    subst hk
    rw[CN]
    exact hb.lt
  ·have hold:(Builtin.firstCells i.size n (.slice (some ⟨g,off,none⟩) n cap)).run P w.drew= .ok xs.toArray w.drew:=
    (Own.src (P:=P) (tx:=t) (w:=w.drew) hown.drew ht h0).cells
   have hr:=run_append_grow_src (P:=P) w t tx ty e i z ht hi hz (some ⟨g,off,none⟩) n cap xs hold x m news hs (by omega) (by omega) (growslice_fits (by omega) hbytes)
   have hgr:=grown cap (by omega)
   refine⟨_,_,hr,hgr,⟨rfl,rfl,rfl,by simp,fun k hk _=>Below.heap_alloc w.drew _ k hk⟩,.inr rfl,fun k hk=> ?_⟩
   simp only[Value.ownBlock,Option.some.injEq]at hk
   subst hk
   simp
theorem FP {tx e':TypeId} (hk:P.underlying tx=some (.slice e')) (e:TypeId) (u:Value) (h1:u.oneCell'=true):Src P 1 tx (.slice (some ⟨w.heap.size,0,none⟩) 1 1) 1 [u] (w.alloc (.cells #[u] e)):=by
 refine Src.ofSlice _ hk _ 1 1 [u] rfl (fun j v hj=> ?_) (fun x hx=> ?_)
 ·cases j with
  |zero=>
   have hb:=Blk.new w e #[u]
   have ha:(⟨w.heap.size,0,none⟩:Addr).add 0=⟨w.heap.size,0,none⟩:=rfl
   rw[ha,hb.cell]
   simpa using hj
  |succ j=>simp at hj
 ·simp only[List.mem_singleton]at hx
  exact hx▸h1
theorem Fl {o:Oper} {a:Act} {K:Act→World→Prop} {Q:Exit→Act→World→Prop} (s sx:Operand) (t tx:TypeId)
 (ho:o.op= .call {callee:= .builtin .append,args:= #[s,sx],argTypes:= #[t,tx]})
 (e:TypeId) (i:TypeInfo) (z:Value) (size bytes:Nat) (ht:P.underlying t=some (.slice e)) (hi:P.info? e=some i) (hz:i.zero=some z)
 (hsize:i.size=size) (hby:i.bytes=bytes) (hzs:z.cells.size=size) (hsz:0<size)
 (v:Value) (n:Nat) (xs:List Value) (hv:a.eval s=v) (hown:Own w e size v n xs) (h0:∀u∈xs,u.oneCell'=true)
 (x:Value) (m:Nat) (news:List Value) (hx:a.eval sx=x) (hs:Src P size tx x m news w)
 (h63:n+m≤maxLen) (hbytes:(n+m)*bytes≤140737488355328)
 (h:∀v' w',Own w' e size v' (n+m) (xs++news)→w.grownBy w' v.ownBlock→(v'.ownBlock=v.ownBlock∨v'.ownBlock=some w.heap.size)→(∀k,v'.ownBlock=some k→k<w'.heap.size)→K (a.put o.dst v') w'):o.wp P a w K Q:=by
 obtain⟨v',w',hrun,h2,h3,h4,h5⟩:=Ew (P:=P) w t tx o.type e i z size bytes ht hi hz hsize hby hzs hsz v n xs hown h0 x m news hs h63 hbytes
 unfold Oper.wp execOp
 simp only[ho,resolve,invoke,builtin,Sem.run_bind,Sem.run_pure,Result.andThen_ok,List.map_toArray,List.map_cons,List.map_nil,hv,hx,hrun]
 exact h v' w' h2 h3 h4 h5
theorem DB {ops:Array Oper} {rest:List Oper} {o:Oper} {a:Act} {Q:Exit→Act→World→Prop} (hgd:o.guard=none) (s sx:Operand) (t tx:TypeId)
 (ho:o.op= .call {callee:= .builtin .append,args:= #[s,sx],argTypes:= #[t,tx]})
 (e:TypeId) (i:TypeInfo) (z:Value) (size bytes:Nat) (ht:P.underlying t=some (.slice e)) (hi:P.info? e=some i) (hz:i.zero=some z)
 (hsize:i.size=size) (hby:i.bytes=bytes) (hzs:z.cells.size=size) (hsz:0<size)
 (v:Value) (n:Nat) (xs:List Value) (hv:a.eval s=v) (hown:Own w e size v n xs) (h0:∀u∈xs,u.oneCell'=true)
 (x:Value) (m:Nat) (news:List Value) (hx:a.eval sx=x) (hs:Src P size tx x m news w)
 (h63:n+m≤maxLen) (hbytes:(n+m)*bytes≤140737488355328)
 (h:∀v' w',Own w' e size v' (n+m) (xs++news)→w.grownBy w' v.ownBlock→(v'.ownBlock=v.ownBlock∨v'.ownBlock=some w.heap.size)→(∀k,v'.ownBlock=some k→k<w'.heap.size)→wpList P ops Q rest (a.put o.dst v') w'):
 wpList P ops Q (o::rest) a w:=
 wpList_plain hgd fun _ hK=>Fl w s sx t tx ho e i z size bytes ht hi hz hsize hby hzs hsz v n xs hv hown h0 x m news hx hs h63 hbytes fun v' w' h2 h3 h4 h5=>hK _ _ (h v' w' h2 h3 h4 h5)
theorem DK {o:Oper} {a:Act} {K:Act→World→Prop} {Q:Exit→Act→World→Prop} (s sx:Operand) (t tx:TypeId)
 (ho:o.op= .call {callee:= .builtin .append,args:= #[s,sx],argTypes:= #[t,tx]})
 (e:TypeId) (i:TypeInfo) (z:Value) (size bytes:Nat) (ht:P.underlying t=some (.slice e)) (hi:P.info? e=some i) (hz:i.zero=some z)
 (hsize:i.size=size) (hby:i.bytes=bytes) (hzs:z.cells.size=size) (hsz:0<size)
 (v:Value) (n:Nat) (xs:List Value) (hv:a.eval s=v) (hown:Own w e size v n xs) (h0:∀u∈xs,u.oneCell'=true)
 (x:Value) (m:Nat) (news:List Value) (hx:a.eval sx=x) (hs:Src P size tx x m news w)
 (h63:n+m≤maxLen) (hbytes:(n+m)*bytes≤140737488355328)
 (h:∀ao' cap' w',n+m≤cap'→cap'≤maxLen→Own w' e size (.slice ao' (n+m) cap') (n+m) (xs++news)→w.grownBy w' v.ownBlock→((Value.slice ao' (n+m) cap').ownBlock=v.ownBlock∨(Value.slice ao' (n+m) cap').ownBlock=some w.heap.size)→(∀k,(Value.slice ao' (n+m) cap').ownBlock=some k→k<w'.heap.size)→K (a.put o.dst (.slice ao' (n+m) cap')) w'):o.wp P a w K Q:=by
 refine Fl w s sx t tx ho e i z size bytes ht hi hz hsize hby hzs hsz v n xs hv hown h0 x m news hx hs h63 hbytes fun v' w' h2 h3 h4 h5=> ?_
 obtain⟨ao',cap',rfl,h6,h7,_⟩:=h2.form
 exact h ao' cap' w' h6 h7 h2 h3 h4 h5
theorem AC {ops:Array Oper} {rest:List Oper} {o:Oper} {a:Act} {Q:Exit→Act→World→Prop} (hgd:o.guard=none) (s sx:Operand) (t tx:TypeId)
 (ho:o.op= .call {callee:= .builtin .append,args:= #[s,sx],argTypes:= #[t,tx]})
 (e:TypeId) (i:TypeInfo) (z:Value) (size bytes:Nat) (ht:P.underlying t=some (.slice e)) (hi:P.info? e=some i) (hz:i.zero=some z)
 (hsize:i.size=size) (hby:i.bytes=bytes) (hzs:z.cells.size=size) (hsz:0<size)
 (v:Value) (n:Nat) (xs:List Value) (hv:a.eval s=v) (hown:Own w e size v n xs) (h0:∀u∈xs,u.oneCell'=true)
 (x:Value) (m:Nat) (news:List Value) (hx:a.eval sx=x) (hs:Src P size tx x m news w)
 (h63:n+m≤maxLen) (hbytes:(n+m)*bytes≤140737488355328)
 (h:∀ao' cap' w',n+m≤cap'→cap'≤maxLen→Own w' e size (.slice ao' (n+m) cap') (n+m) (xs++news)→w.grownBy w' v.ownBlock→((Value.slice ao' (n+m) cap').ownBlock=v.ownBlock∨(Value.slice ao' (n+m) cap').ownBlock=some w.heap.size)→(∀k,(Value.slice ao' (n+m) cap').ownBlock=some k→k<w'.heap.size)→wpList P ops Q rest (a.put o.dst (.slice ao' (n+m) cap')) w'):
 wpList P ops Q (o::rest) a w:=
 wpList_plain hgd fun _ hK=>DK w s sx t tx ho e i z size bytes ht hi hz hsize hby hzs hsz v n xs hv hown h0 x m news hx hs h63 hbytes fun ao' cap' w' h1 h2 h3 h4 h5 h6=>hK _ _ (h ao' cap' w' h1 h2 h3 h4 h5 h6)
end
set_option maxHeartbeats 32000000
open Go.ChangeShapes Go.WideShapes Go.ChangeAt Go.RowKit Go.Deep
set_option maxRecDepth 100000
def De (c:UInt8):Bool:=(decide (97≤c.toNat) && decide (c.toNat≤122))||(decide (65≤c.toNat) && decide (c.toNat≤90))||(decide (48≤c.toNat) && decide (c.toNat≤57))||([46,95,43,126,94]:List UInt8).contains c
def CU (s:ByteArray):Bool:=decide (1≤s.size) && decide (s.size≤64) && s.data.toList.all De
theorem OO (c:UInt8):((c.toNat:Int)).toNat.toUInt8=c:=by
 rw[Int.toNat_natCast]
 exact UInt8.ofNat_toNat
theorem P9 (l:List UInt8) (c:UInt8) (w:World):Calls Tryz.prog 113 #[.string ⟨l.toArray⟩,.int .u8 (c.toNat:Int)] w fun e w'=>e= .returned (.int .i64 (Lib.indexByte l c))∧w=w':=by
 refine(strings_IndexByte ⟨l.toArray⟩ (c.toNat:Int) w).mono ?_
 rintro e w' ⟨rfl,rfl⟩
 rw[OO]
 exact⟨rfl,rfl⟩
theorem NM (l:List UInt8) (c:UInt8):decide (0≤Lib.indexByte l c)=l.contains c:=(Lib.contains_iff_indexByte l c).symm
theorem EW {s:ByteArray} {p:UInt8→Bool} {k:Nat} (h:k<s.size):(s.data.toList.drop k).all p=(p s[k] && (s.data.toList.drop (k+1)).all p):=by
 rw[List.drop_eq_getElem_cons (by simpa using h)]
 rfl
theorem FZ {s:ByteArray} {p:UInt8→Bool}:(s.data.toList.drop s.size).all p=true:=by
 rw[List.drop_of_length_le (by simp)]
 rfl
theorem Gr {s:ByteArray} (h:s.size=0):s.toList= []:=by
 rw[ByteArray.toList_eq]
 exact List.eq_nil_of_length_eq_zero (by simpa using h)
theorem Fb {s:ByteArray} (h:0<s.size):s.toList.isEmpty=false∧¬s.toList= []:=by
 rw[ByteArray.toList_eq]
 have h1:s.data.toList≠ []:=fun e=>by
  have h2:s.data.toList.length=0:=by rw[e];rfl
  have h3:s.data.toList.length=s.size:=by simp
  omega
 exact⟨by simpa using h1,h1⟩
theorem ON {c:UInt8} {J:Int} (hJ:decide (0≤J)=([46,95,43,126,94]:List UInt8).contains c) (h:(97≤c.toNat∧c.toNat≤122)∨(65≤c.toNat∧c.toNat≤90)∨(48≤c.toNat∧c.toNat≤57)∨0≤J):De c=true:=by
 unfold De
 rw[←hJ]
 simp only[Bool.or_eq_true,Bool.and_eq_true,decide_eq_true_eq]
 omega
theorem M6 {c:UInt8} {J:Int} (hJ:decide (0≤J)=([46,95,43,126,94]:List UInt8).contains c) (h:¬(97≤c.toNat∧c.toNat≤122)∧¬(65≤c.toNat∧c.toNat≤90)∧¬(48≤c.toNat∧c.toNat≤57)∧J<0):De c=false:=by
 rw[←Bool.not_eq_true]
 unfold De
 rw[←hJ]
 simp only[Bool.or_eq_true,Bool.and_eq_true,decide_eq_true_eq]
 omega
theorem I0 (s:ByteArray) (w:World) (hs:s.size≤9223372036854775807):Calls Tryz.prog 115 #[.string s] w fun e w'=>e= .returned (.bool (CU s))∧w=w':=by
 obtain⟨T,hT⟩:∃T,T=CU s:=⟨_,rfl⟩
 rw[←hT]
 unfold CU at hT
 by_cases h0:s.size=0
 ·have h1:=Gr h0
  have h2:s.toList.isEmpty=true:=by rw[h1];rfl
  obtain rfl:T=false:=by rw[hT,h0];rfl
  clear hT
  go_enter Tryz.func115,Tryz.ntmps115
  go_wp2_with fail
  go_ret
  exact⟨rfl,rfl⟩
 ·obtain⟨hne,hne2⟩:=Fb (show 0<s.size by omega)
  by_cases h64:(64:Int)<(s.size:Int)
  ·obtain rfl:T=false:=by rw[hT,decide_eq_false (show¬s.size≤64 by omega)];simp
   have hd:decide ((64:Int)<(s.size:Int))=true:=by simpa using h64
   clear hT
   go_enter Tryz.func115,Tryz.ntmps115
   go_wp2_with fail
   go_ret
   exact⟨rfl,rfl⟩
  ·have hd:decide ((64:Int)<(s.size:Int))=false:=by simpa using h64
   have HT:=Hd (show T=(s.data.toList.drop 0).all De by rw[hT,decide_eq_true (show s.size≤64 by omega),decide_eq_true (show 1≤s.size by omega)];rfl)
   clear hT h0
   go_enter Tryz.func115,Tryz.ntmps115
   go_wp2_with fail
   go_loop [14] (fun i=>∃k:Nat,k≤s.size∧i= .int .i64 k∧Hid (T=(s.data.toList.drop k).all De)) (fun i=>s.size-(intOf i).toNat)
   case atStart=>exact⟨0,by omega,rfl,HT⟩
   case round=>
    obtain⟨k,hk,rfl,HK⟩:=hrel
    by_cases hlt:k<s.size
    ·have hki:(k:Int)<(s.size:Int):=by omega
     have hTk:=HK.out
     rw[EW hlt]at hTk
     have HI:=Hd (fun w=>P9 [46,95,43,126,94] s[k] w)
     have HIy:=Hd (NM [46,95,43,126,94] s[k])
     obtain⟨J,hJ⟩:∃J,J=Lib.indexByte [46,95,43,126,94] s[k]:=⟨_,rfl⟩
     rw[←hJ]at HI HIy
     have HTk:=Hd hTk
     clear hJ HK hTk
     go_wp2_with (first
      |(go_at_call 113;(with_reducible refine(HI.out _).mono ?_);rintro e w1 ⟨rfl,rfl⟩)
      |fail)
     all_goals
      first
       |(go_round
         case rel=>exact⟨k+1,by omega,by go_num,Hd (by rw[HTk.out,ON HIy.out (by omega)];rfl)⟩
         case measure=>simp[intOf];omega)
       |(go_ret
         rw[HTk.out,M6 HIy.out (by omega)]
         exact⟨rfl,rfl⟩)
       |fail
    ·obtain rfl:k=s.size:=by omega
     have hTk:=HK.out
     rw[FZ]at hTk
     subst hTk
     clear HK HT
     go_wp2_with fail
     go_ret
     exact⟨rfl,rfl⟩
theorem M8 {c:UInt8} (h:(97≤c.toNat∧c.toNat≤122)∨(65≤c.toNat∧c.toNat≤90)∨(48≤c.toNat∧c.toNat≤57)∨c.toNat=46∨c.toNat=95∨c.toNat=43∨c.toNat=126∨c.toNat=94):De c=true:=by
 unfold De
 simp only[Bool.or_eq_true,Bool.and_eq_true,decide_eq_true_eq,List.contains_iff_mem,List.mem_cons,List.not_mem_nil,or_false,←UInt8.toNat_inj,UInt8.reduceToNat]
 omega
theorem L0 {c:UInt8} (h:¬(97≤c.toNat∧c.toNat≤122)∧¬(65≤c.toNat∧c.toNat≤90)∧¬(48≤c.toNat∧c.toNat≤57)∧c.toNat≠46∧c.toNat≠95∧c.toNat≠43∧c.toNat≠126∧c.toNat≠94):De c=false:=by
 rw[←Bool.not_eq_true]
 unfold De
 simp only[Bool.or_eq_true,Bool.and_eq_true,decide_eq_true_eq,List.contains_iff_mem,List.mem_cons,List.not_mem_nil,or_false,←UInt8.toNat_inj,UInt8.reduceToNat]
 omega
theorem Hj (s:ByteArray) (w:World) (hs:s.size≤9223372036854775807):Calls Tryz.prog 145 #[.string s] w fun e w'=>e= .returned (.bool (CU s))∧w=w':=by
 obtain⟨T,hT⟩:∃T,T=CU s:=⟨_,rfl⟩
 rw[←hT]
 unfold CU at hT
 have HT:=Hd (show T=((decide (1≤s.size) && decide (s.size≤64)) && (s.data.toList.drop 0).all De)from hT)
 clear hT
 go_enter Tryz.func145,Tryz.ntmps145
 go_wp2_with fail
 go_loop [3] (fun i=>∃k:Nat,k≤s.size∧i= .int .i64 k∧Hid (T=((decide (1≤s.size) && decide (s.size≤64)) && (s.data.toList.drop k).all De))) (fun i=>s.size-(intOf i).toNat)
 case atStart=>exact⟨0,by omega,rfl,HT⟩
 case round=>
  obtain⟨k,hk,rfl,HK⟩:=hrel
  by_cases hlt:k<s.size
  ·have hki:(k:Int)<(s.size:Int):=by omega
   have hTk:=HK.out
   rw[EW hlt]at hTk
   have HTk:=Hd hTk
   clear HK hTk
   go_wp2_with fail
   all_goals
    first
     |(go_round
       case rel=>exact⟨k+1,by omega,by go_num,Hd (by rw[HTk.out,M8 (by first|omega|(clear HT HTk;simp at*;omega))];rfl)⟩
       case measure=>simp[intOf];omega)
     |(go_ret
       rw[HTk.out,L0 (by first|omega|(clear HT HTk;simp at*;omega)),Bool.false_and,Bool.and_false]
       exact⟨rfl,rfl⟩)
     |fail
  ·obtain rfl:k=s.size:=by omega
   have hTk:=HK.out
   rw[FZ,Bool.and_true]at hTk
   have HTk:=Hd hTk
   clear HK HT hTk
   by_cases h1:(1:Int)≤(s.size:Int)
   ·by_cases h2:(s.size:Int)≤64
    ·have hd1:decide ((1:Int)≤(s.size:Int))=true:=by simpa using h1
     have hd2:decide ((s.size:Int)≤64)=true:=by simpa using h2
     go_wp2_with fail
     go_ret
     rw[HTk.out,decide_eq_true (show 1≤s.size by omega),decide_eq_true (show s.size≤64 by omega)]
     exact⟨rfl,rfl⟩
    ·have hd1:decide ((1:Int)≤(s.size:Int))=true:=by simpa using h1
     have hd2:decide ((s.size:Int)≤64)=false:=by simpa using h2
     go_wp2_with fail
     go_ret
     rw[HTk.out,decide_eq_false (show¬s.size≤64 by omega),Bool.and_false]
     exact⟨rfl,rfl⟩
   ·have hd1:decide ((1:Int)≤(s.size:Int))=false:=by simpa using h1
    go_wp2_with fail
    go_ret
    rw[HTk.out,decide_eq_false (show¬1≤s.size by omega),Bool.false_and]
    exact⟨rfl,rfl⟩
def En (ep:Int) (ver rel:ByteArray) (dep:Bool):Bool:=decide (0≤ep) && decide (ep≤2147483647) && CU ver && (CU rel||(dep && decide (rel.size=0)))
theorem M7 {s:ByteArray} (h:s.size=0):CU s=false:=by
 unfold CU
 rw[h]
 rfl
theorem LB (ep:Int) (ver rel:ByteArray) (dep:Bool) (w:World) (h1:ver.size≤9223372036854775807) (h2:rel.size≤9223372036854775807):
 Calls Tryz.prog 71 #[.agg #[.int .i64 ep,.string ver,.string rel],.bool dep] w fun e w'=>e= .returned (.bool (En ep ver rel dep))∧Below w.heap.size w w':=by
 obtain⟨T,hT⟩:∃T,T=En ep ver rel dep:=⟨_,rfl⟩
 rw[←hT]
 have HV:=Hd (fun w=>I0 ver w h1)
 have HR:=Hd (fun w=>I0 rel w h2)
 unfold En at hT
 have hB:Below w.heap.size w (w.alloc (.cells #[.int .i64 ep,.string ver,.string rel] 24)):=(Below.refl _ _).alloc (Nat.le_refl _) _
 by_cases ha:0≤ep
 ·rw[decide_eq_true ha]at hT
  by_cases hb:ep≤2147483647
  ·rw[decide_eq_true hb]at hT
   cases hv:CU ver with
   |true=>
    rw[hv]at HV hT
    cases hr:CU rel with
    |true=>
     rw[hr]at HR hT
     obtain rfl:T=true:=by rw[hT];rfl
     clear hT hv hr h1 h2
     go_enter Tryz.func71,Tryz.ntmps71
     go_wp2_with (first
      |(go_at_call 115;(with_reducible refine(HV.out _).mono ?_);rintro e w1 ⟨rfl,rfl⟩)
      |(go_at_call 115;(with_reducible refine(HR.out _).mono ?_);rintro e w1 ⟨rfl,rfl⟩)
      |fail)
     go_ret
     exact⟨rfl,hB⟩
    |false=>
     rw[hr]at HR hT
     cases dep with
     |false=>
      obtain rfl:T=false:=by rw[hT];rfl
      clear hT hv hr h1 h2
      go_enter Tryz.func71,Tryz.ntmps71
      go_wp2_with (first
       |(go_at_call 115;(with_reducible refine(HV.out _).mono ?_);rintro e w1 ⟨rfl,rfl⟩)
       |(go_at_call 115;(with_reducible refine(HR.out _).mono ?_);rintro e w1 ⟨rfl,rfl⟩)
       |fail)
      go_ret
      exact⟨rfl,hB⟩
     |true=>
      by_cases h0:rel.size=0
      ·have k1:=Gr h0
       have k2:rel.toList.isEmpty=true:=by rw[k1];rfl
       obtain rfl:T=true:=by rw[hT,h0];rfl
       clear hT hv hr h1 h2 h0
       go_enter Tryz.func71,Tryz.ntmps71
       go_wp2_with (first
        |(go_at_call 115;(with_reducible refine(HV.out _).mono ?_);rintro e w1 ⟨rfl,rfl⟩)
        |(go_at_call 115;(with_reducible refine(HR.out _).mono ?_);rintro e w1 ⟨rfl,rfl⟩)
        |fail)
       go_ret
       exact⟨rfl,hB⟩
      ·obtain⟨k1,k2⟩:=Fb (show 0<rel.size by omega)
       obtain rfl:T=false:=by rw[hT,decide_eq_false h0];rfl
       clear hT hv hr h1 h2 h0
       go_enter Tryz.func71,Tryz.ntmps71
       go_wp2_with (first
        |(go_at_call 115;(with_reducible refine(HV.out _).mono ?_);rintro e w1 ⟨rfl,rfl⟩)
        |(go_at_call 115;(with_reducible refine(HR.out _).mono ?_);rintro e w1 ⟨rfl,rfl⟩)
        |fail)
       go_ret
       exact⟨rfl,hB⟩
   |false=>
    rw[hv]at HV hT
    obtain rfl:T=false:=by rw[hT];rfl
    clear hT hv h1 h2
    go_enter Tryz.func71,Tryz.ntmps71
    go_wp2_with (first
     |(go_at_call 115;(with_reducible refine(HV.out _).mono ?_);rintro e w1 ⟨rfl,rfl⟩)
     |fail)
    go_ret
    exact⟨rfl,hB⟩
  ·obtain rfl:T=false:=by rw[hT,decide_eq_false hb];rfl
   have hd:decide (ep≤2147483647)=false:=by simpa using hb
   clear hT h1 h2
   go_enter Tryz.func71,Tryz.ntmps71
   go_wp2_with fail
   go_ret
   exact⟨rfl,hB⟩
 ·obtain rfl:T=false:=by rw[hT,decide_eq_false ha];rfl
  have hd:decide (0≤ep)=false:=by simpa using ha
  clear hT h1 h2
  go_enter Tryz.func71,Tryz.ntmps71
  go_wp2_with fail
  go_ret
  exact⟨rfl,hB⟩
theorem Jb (ep:Int) (ver rel:ByteArray) (dep:Bool) (w:World) (h1:ver.size≤9223372036854775807) (h2:rel.size≤9223372036854775807):
 Calls Tryz.prog 92 #[.agg #[.int .i64 ep,.string ver,.string rel],.bool dep] w fun e w'=>e= .returned (.bool (En ep ver rel dep))∧Below w.heap.size w w':=by
 obtain⟨T,hT⟩:∃T,T=En ep ver rel dep:=⟨_,rfl⟩
 rw[←hT]
 have HV:=Hd (fun w=>Hj ver w h1)
 have HR:=Hd (fun w=>Hj rel w h2)
 unfold En at hT
 have hB:Below w.heap.size w (w.alloc (.cells #[.int .i64 ep,.string ver,.string rel] 24)):=(Below.refl _ _).alloc (Nat.le_refl _) _
 by_cases ha:ep<0
 ·obtain rfl:T=false:=by rw[hT,decide_eq_false (by omega)];rfl
  clear hT h1 h2
  go_enter Tryz.func92,Tryz.ntmps92
  go_wp2_with fail
  go_ret
  exact⟨rfl,hB⟩
 ·rw[decide_eq_true (show 0≤ep by omega)]at hT
  have hda:decide (ep<0)=false:=by simpa using ha
  by_cases hb:2147483647<ep
  ·obtain rfl:T=false:=by rw[hT,decide_eq_false (by omega)];rfl
   have hd:decide (2147483647<ep)=true:=by simpa using hb
   clear hT h1 h2
   go_enter Tryz.func92,Tryz.ntmps92
   go_wp2_with fail
   go_ret
   exact⟨rfl,hB⟩
  ·rw[decide_eq_true (show ep≤2147483647 by omega)]at hT
   have hd:decide (2147483647<ep)=false:=by simpa using hb
   cases hv:CU ver with
   |false=>
    rw[hv]at HV hT
    obtain rfl:T=false:=by rw[hT];rfl
    clear hT hv h1 h2
    go_enter Tryz.func92,Tryz.ntmps92
    go_wp2_with (first
     |(go_at_call 145;(with_reducible refine(HV.out _).mono ?_);rintro e w1 ⟨rfl,rfl⟩)
     |fail)
    go_ret
    exact⟨rfl,hB⟩
   |true=>
    rw[hv]at HV hT
    by_cases h0:rel.size=0
    ·have k1:=Gr h0
     have k2:rel.toList.isEmpty=true:=by rw[k1];rfl
     obtain rfl:T=dep:=by rw[hT,M7 h0,h0];simp
     clear hT hv h1 h2 h0
     go_enter Tryz.func92,Tryz.ntmps92
     go_wp2_with (first
      |(go_at_call 145;(with_reducible refine(HV.out _).mono ?_);rintro e w1 ⟨rfl,rfl⟩)
      |fail)
     go_ret
     exact⟨rfl,hB⟩
    ·obtain⟨k1,k2⟩:=Fb (show 0<rel.size by omega)
     obtain rfl:T=CU rel:=by rw[hT,decide_eq_false h0];simp
     clear hT hv h1 h2 h0
     go_enter Tryz.func92,Tryz.ntmps92
     go_wp2_with (first
      |(go_at_call 145;(with_reducible refine(HV.out _).mono ?_);rintro e w1 ⟨rfl,rfl⟩)
      |(go_at_call 145;(with_reducible refine(HR.out _).mono ?_);rintro e w1 ⟨rfl,rfl⟩)
      |fail)
     go_ret
     exact⟨rfl,hB⟩
def DM (n:Nat):Prop:=(97≤n∧n≤122)∨(65≤n∧n≤90)∨(48≤n∧n≤57)∨n=46∨n=95∨n=43∨n=45∨n=47∨n=58∨n=64∨n=126∨n=94
instance (n:Nat):Decidable (DM n):=by unfold DM;infer_instance
def CB (c:UInt8):Bool:=decide (DM c.toNat)
def E1:List UInt8:= [97,98,99,100,101,102,103,104,105,106,107,108,109,110,111,112,113,114,115,116,117,118,119,120,121,122,65,66,67,68,69,70,71,72,73,74,75,76,77,78,79,80,81,82,83,84,85,86,87,88,89,90,48,49,50,51,52,53,54,55,56,57,46,95,43,45,47,58,64,126,94]
theorem Nh:∀n:Fin 256,E1.contains (UInt8.ofNat n.val)=decide (DM n.val):=by decide+kernel
theorem L5 (c:UInt8):E1.contains c=CB c:=by
 have h:=Nh ⟨c.toNat,c.toNat_lt⟩
 simp only at h
 rw[UInt8.ofNat_toNat]at h
 exact h
theorem Lo {c:UInt8} (h:DM c.toNat):CB c=true:=decide_eq_true h
theorem Ng {c:UInt8} (h:¬DM c.toNat):CB c=false:=decide_eq_false h
theorem Af {a b:Bool} (h:a=b):Ending.returned (.bool a)= .returned (.bool b):=by rw[h]
theorem Mc (c:UInt8) (w:World):Calls Tryz.prog 144 #[.int .u8 (c.toNat:Int)] w fun e w'=>e= .returned (.bool (CB c))∧w=w':=by
 obtain⟨T,hT⟩:∃T,T=CB c:=⟨_,rfl⟩
 rw[←hT]
 have HT:=Hd hT
 have h256:(c.toNat:Int)<256:=by have:=c.toNat_lt;omega
 clear hT
 go_enter Tryz.func144,Tryz.ntmps144
 go_wp2_with fail
 all_goals
  go_ret
  refine⟨Af ?_,rfl⟩
  rw[HT.out]
  by_cases h94:c.toNat=94
  ·rw[Lo (by unfold DM;omega)]
   try simp[h94]
  ·first
    |(rw[Ng (by unfold DM;omega)]
      simp
      omega)
    |(rw[Lo (by unfold DM;omega)])
    |fail
def B9:List (List UInt8):= [[97,110,100],[111,114],[105,102],[101,108,115,101],[117,110,108,101,115,115],[119,105,116,104],[119,105,116,104,111,117,116]]
def Ce (s:ByteArray):Bool:=(decide (1≤s.size) && decide (s.size≤64)) && (!(B9.contains s.toList) && s.data.toList.all CB)
theorem E3 (s:ByteArray) (w:World) (hs:s.size≤9223372036854775807):Calls Tryz.prog 90 #[.string s] w fun e w'=>e= .returned (.bool (Ce s))∧w=w':=by
 obtain⟨T,hT⟩:∃T,T=Ce s:=⟨_,rfl⟩
 rw[←hT]
 unfold Ce at hT
 by_cases h1:(s.size:Int)<1
 ·obtain rfl:T=false:=by rw[hT,decide_eq_false (show¬1≤s.size by omega)];rfl
  have hd:decide ((s.size:Int)<1)=true:=by simpa using h1
  clear hT
  go_enter Tryz.func90,Tryz.ntmps90
  go_wp2_with fail
  go_ret
  exact⟨rfl,rfl⟩
 ·rw[decide_eq_true (show 1≤s.size by omega)]at hT
  have hd1:decide ((s.size:Int)<1)=false:=by simpa using h1
  by_cases h2:(64:Int)<(s.size:Int)
  ·obtain rfl:T=false:=by rw[hT,decide_eq_false (show¬s.size≤64 by omega)];rfl
   have hd2:decide ((64:Int)<(s.size:Int))=true:=by simpa using h2
   clear hT
   go_enter Tryz.func90,Tryz.ntmps90
   go_wp2_with fail
   go_ret
   exact⟨rfl,rfl⟩
  ·rw[decide_eq_true (show s.size≤64 by omega)]at hT
   have hd2:decide ((64:Int)<(s.size:Int))=false:=by simpa using h2
   cases hw:B9.contains s.toList with
   |true=>
    obtain rfl:T=false:=by rw[hT,hw];rfl
    have hw2:=hw
    unfold B9 at hw2
    simp only[List.contains_iff_mem,List.mem_cons,List.not_mem_nil,or_false]at hw2
    clear hT hw
    go_enter Tryz.func90,Tryz.ntmps90
    rcases hw2 with h|h|h|h|h|h|h
    all_goals
     go_wp2_with fail
     go_ret
     exact⟨rfl,rfl⟩
   |false=>
    have HT:=Hd (show T=(s.data.toList.drop 0).all CB by rw[hT,hw];rfl)
    unfold B9 at hw
    simp only[List.contains_cons,List.contains_nil,Bool.or_false,Bool.or_eq_false_iff]at hw
    obtain⟨x1,x2,x3,x4,x5,x6,x7⟩:=hw
    clear hT
    go_enter Tryz.func90,Tryz.ntmps90
    go_wp2_with fail
    go_loop [3] (fun i=>∃k:Nat,k≤s.size∧i= .int .i64 k∧Hid (T=(s.data.toList.drop k).all CB)) (fun i=>s.size-(intOf i).toNat)
    case atStart=>exact⟨0,by omega,rfl,HT⟩
    case round=>
     obtain⟨k,hk,rfl,HK⟩:=hrel
     by_cases hlt:k<s.size
     ·have hki:(k:Int)<(s.size:Int):=by omega
      have hTk:=HK.out
      rw[EW hlt]at hTk
      have HSg:=Hd (fun w=>Mc s[k] w)
      cases hb:CB s[k]with
      |true=>
       rw[hb]at HSg hTk
       have HTk:=Hd (show T=(s.data.toList.drop (k+1)).all CB from hTk)
       clear HK hTk hb
       go_wp2_with (first
        |(go_at_call 144;(with_reducible refine(HSg.out _).mono ?_);rintro e w1 ⟨rfl,rfl⟩)
        |fail)
       go_round
       case rel=>exact⟨k+1,by omega,by go_num,HTk⟩
       case measure=>simp[intOf];omega
      |false=>
       rw[hb]at HSg hTk
       obtain rfl:T=false:=hTk
       clear HK HT hb
       go_wp2_with (first
        |(go_at_call 144;(with_reducible refine(HSg.out _).mono ?_);rintro e w1 ⟨rfl,rfl⟩)
        |fail)
       go_ret
       exact⟨rfl,rfl⟩
     ·obtain rfl:k=s.size:=by omega
      have hTk:=HK.out
      rw[FZ]at hTk
      subst hTk
      clear HK HT
      go_wp2_with fail
      go_ret
      exact⟨rfl,rfl⟩
end Go.Proofs.YtdpjjnbelgaagaaGreatDoor
