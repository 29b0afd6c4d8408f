/- Codec's reader: packages. Conditions: as each theorem names them. -/
import Derived.Test.YtdpjjnbelgaagaaGreatDoorG09
namespace Go.Proofs.YtdpjjnbelgaagaaGreatDoor
open Go.ChangeShapes Go.WideShapes Go.ChangeAt Go.RowKit Go.Deep
set_option maxRecDepth 100000

section
variable {B : World → Nat → Prop} {W : World} {p : PkgD} {r : PkgR}
theorem PkgIn.ep_ {x : Int} (h : PkgIn B W p r) (hx : 0 ≤ x ∧ x ≤ 2147483647) : PkgIn B W { p with ep := x } r := ⟨h.s1, h.s2, h.s3, h.s4, h.ar, (by show -9223372036854775808 ≤ x ∧ x ≤ 9223372036854775807; omega), h.prov, h.req, h.con, h.obs, h.reco, h.sup, h.sug, h.enh, h.files⟩
theorem PkgIn.ver_ {x : ByteArray} (h : PkgIn B W p r) (hx : x.size ≤ 64) : PkgIn B W { p with ver := x } r := ⟨h.s1, (by show x.size ≤ 9223372036854775807; omega), h.s3, h.s4, h.ar, h.ep, h.prov, h.req, h.con, h.obs, h.reco, h.sup, h.sug, h.enh, h.files⟩
theorem PkgIn.rel_ {x : ByteArray} (h : PkgIn B W p r) (hx : x.size ≤ 64) : PkgIn B W { p with rel := x } r := ⟨h.s1, h.s2, (by show x.size ≤ 9223372036854775807; omega), h.s4, h.ar, h.ep, h.prov, h.req, h.con, h.obs, h.reco, h.sup, h.sug, h.enh, h.files⟩
theorem PkgIn.arch_ {x : Int} (h : PkgIn B W p r) (hx : 0 ≤ x ∧ x < 256) : PkgIn B W { p with arch := x } r := ⟨h.s1, h.s2, h.s3, h.s4, hx, h.ep, h.prov, h.req, h.con, h.obs, h.reco, h.sup, h.sug, h.enh, h.files⟩
theorem PkgIn.vendor_ {x : ByteArray} (h : PkgIn B W p r) (hx : x.size ≤ 64) : PkgIn B W { p with vendor := x } r := ⟨h.s1, h.s2, h.s3, (by show x.size ≤ 9223372036854775807; omega), h.ar, h.ep, h.prov, h.req, h.con, h.obs, h.reco, h.sup, h.sug, h.enh, h.files⟩
end
/-- The body's reading from the four lists on, k of them being read. -/
def rest4 (F : RichD → RichD → RichD → RichD → Rdr PkgD) (L : Nat → RichD) : Nat → Rdr PkgD
  | 0 => rBind pRiches fun a => rBind pRiches fun b => rBind pRiches fun c => rBind pRiches fun d => F a b c d
  | 1 => rBind pRiches fun b => rBind pRiches fun c => rBind pRiches fun d => F (L 0) b c d
  | 2 => rBind pRiches fun c => rBind pRiches fun d => F (L 0) (L 1) c d
  | 3 => rBind pRiches fun d => F (L 0) (L 1) (L 2) d
  | _ => F (L 0) (L 1) (L 2) (L 3)
def upd {α : Type} (f : Nat → α) (k : Nat) (x : α) : Nat → α := fun j => if j = k then x else f j
theorem rest4_step {F : RichD → RichD → RichD → RichD → Rdr PkgD} {L : Nat → RichD} {k : Nat} (hk : k < 4) {s : ByteArray} {a a2 at2 : Nat} {e e1 e2 : Int} {x : RichD} {y : PkgD} (h : Res pRiches s a e x a2 e1) (hy : Res (rest4 F (upd L k x) (k + 1)) s a2 e1 y at2 e2) : Res (rest4 F L k) s a e y at2 e2 := by
  have : k = 0 ∨ k = 1 ∨ k = 2 ∨ k = 3 := by omega
  rcases this with rfl | rfl | rfl | rfl
  · exact res_bind h hy
  · exact res_bind h hy
  · exact res_bind h hy
  · exact res_bind h hy
theorem PkSt.four {w : World} {b bx n0 : Nat} {nm ver rel vd : ByteArray} {ep ar : Int} {pv ob : List DepD} {rq cn : RichD} {vpv vrq vcn vob : Value} {L : Nat → RichD} {V : Nat → Value} {fl : List ByteArray} {vfl : Value} {g gr : Nat} {s : ByteArray} {left : Int} {a k : Nat} {e : Int} {W : World} {x : RichD} {v : Value}
    (h : PkSt w b bx n0 ⟨nm, ep, ver, rel, ar, vd, pv, rq, cn, ob, L 0, L 1, L 2, L 3, fl⟩ ⟨vpv, vrq, vcn, vob, V 0, V 1, V 2, V 3, vfl⟩ g gr s left a e W) (hk : k < 4) (hl : LIn richK (free n0) W (argL x) v) :
    PkSt w b bx n0 ⟨nm, ep, ver, rel, ar, vd, pv, rq, cn, ob, upd L k x 0, upd L k x 1, upd L k x 2, upd L k x 3, fl⟩ ⟨vpv, vrq, vcn, vob, upd V k v 0, upd V k v 1, upd V k v 2, upd V k v 3, vfl⟩ g gr s left a e (W.setCell ⟨bx, 10 + k, none⟩ v) := by
  have : k = 0 ∨ k = 1 ∨ k = 2 ∨ k = 3 := by omega
  rcases this with rfl | rfl | rfl | rfl
  · exact h.put 10 v rfl (h.inn.reco_ hl)
  · exact h.put 11 v rfl (h.inn.sup_ hl)
  · exact h.put 12 v rfl (h.inn.sug_ hl)
  · exact h.put 13 v rfl (h.inn.enh_ hl)
theorem pkg_cell {W : World} {bx : Nat} {c0 c1 c2 c3 c4 c5 c6 c7 c8 c9 c14 : Value} {V : Nat → Value} (h : Blk W bx 29 #[c0, c1, c2, c3, c4, c5, c6, c7, c8, c9, V 0, V 1, V 2, V 3, c14]) {k : Nat} (hk : k < 4) : W.cell? ⟨bx, 10 + k, none⟩ = some (V k) ∧ W.frozen? ⟨bx, 10 + k, none⟩ = false := by
  have : k = 0 ∨ k = 1 ∨ k = 2 ∨ k = 3 := by omega
  rcases this with rfl | rfl | rfl | rfl
  · exact ⟨h.cell 10, h.frozen 10⟩
  · exact ⟨h.cell 11, h.frozen 11⟩
  · exact ⟨h.cell 12, h.frozen 12⟩
  · exact ⟨h.cell 13, h.frozen 13⟩
abbrev arr4 (bx : Nat) : Array Value := #[.pointer (some ⟨bx, 10, none⟩), .pointer (some ⟨bx, 11, none⟩), .pointer (some ⟨bx, 12, none⟩), .pointer (some ⟨bx, 13, none⟩)]
theorem arr_cell {W : World} {ba bx : Nat} (h : Blk W ba 175 (arr4 bx)) {k : Nat} (hk : k < 4) : W.cell? ⟨ba, k, none⟩ = some (.pointer (some ⟨bx, 10 + k, none⟩)) := by
  have : k = 0 ∨ k = 1 ∨ k = 2 ∨ k = 3 := by omega
  rcases this with rfl | rfl | rfl | rfl
  · exact h.cell 0
  · exact h.cell 1
  · exact h.cell 2
  · exact h.cell 3

theorem res_ok {α : Type} {P : Rdr α} {s : ByteArray} {a a2 : Nat} {e : Int} {x : α} (h : Res P s a e x a2 0) : P s a = .ok (x, a2) := by
  rcases h with ⟨h1, _, h2⟩ | ⟨_, ⟨h2, _⟩ | ⟨_, h2⟩⟩
  · exact absurd h2.symm h1
  · exact h2
  · exact absurd rfl h2
theorem res_mono {α : Type} {P : Rdr α} (hp : Good 0 P) {s : ByteArray} {a a2 : Nat} {e : Int} {x : α} (h : Res P s a e x a2 0) (hs : a ≤ s.size) : a ≤ a2 := (hp.mono s a x a2 (Nat.zero_le _) hs (res_ok h)).1

set_option maxHeartbeats 16000000 in
theorem crpkg_any {D : World} (hW : Words D) (hO : Ops D) {g gr : Nat} {s : ByteArray} {left : Int} {at_ : Nat} {e : Int} {w : World} (hD : Below D.heap.size D w) (hg : D.heap.size ≤ g ∧ D.heap.size ≤ gr) (h : RSt g gr s left at_ e w) :
    Calls Tryz.prog 86 #[.pointer (some ⟨g, 0, none⟩)] w (RPost g gr s left at_ e pPkg (fun x v w' => ∃ r, v = x.val r ∧ pkgK.holds (free w.heap.size) w' x r) w) := by
  obtain ⟨b, hbe⟩ : ∃ b, b = w.heap.size := ⟨_, rfl⟩
  obtain ⟨w1, hw1⟩ : ∃ w1, w1 = w.alloc (.cells zeroPk 29) := ⟨_, rfl⟩
  have hb1 : Below w.heap.size w w1 := by rw [hw1]; exact new_b _ _
  have hx1 : Blk w1 b 29 zeroPk := by rw [hw1, hbe]; exact Blk.new _ _ _
  have HS1 := Lib.hid (show RSt g gr s left at_ e w1 ∧ Blk w1 b 29 zeroPk ∧ Touch (RF g gr) w w1 ∧ w1.heap.size = b + 1 ∧ w.heap.size = b ∧ g < b ∧ gr < b from ⟨h.below hb1, hx1, Touch.of_below hb1 _, by rw [hw1, hbe]; simp, hbe.symm, hbe ▸ h.rb.lt, hbe ▸ h.wr.lt⟩)
  have HTab := Lib.hid (show ∀ W, Touch (RF g gr) w W → Words W ∧ Ops W from fun W ht => by
    have hB : Below D.heap.size D W := hD.trans (ht.below hD.size (by rintro k hk (e | e) <;> omega))
    exact ⟨hW.below hB, hO.below hB⟩)
  have HAt := Lib.hid h.hat
  have HA := Lib.hid (at_any gr s at_ e w1 HS1.out.1.wr)
  have HC := Lib.hid (crname_any HS1.out.1)
  have c0 : w1.cell? ⟨g, 0, none⟩ = some (.pointer (some ⟨gr, 0, none⟩)) := HS1.out.1.rb.cell 0
  clear h hb1 hx1 hD hg hW hO
  go_enter Tryz.func86, Tryz.ntmps86
  go_upto_region 1 with fail
  rw [← hw1, ← hbe]
  have HG := Lib.hid hbe
  clear hw1 hbe
  go_upto_region 3 with (first
    | (go_at_call 132; (with_reducible refine HA.out.mono ?_); rintro r w2 ⟨rfl, rfl⟩)
    | (go_at_call 133; (with_reducible refine HC.out.mono ?_); rintro r w2 ⟨nm, v2, a2, e2, rfl, ⟨rfl, hnm⟩, hs2, hr2, ht2⟩; have HQ2 := Lib.hid (show RSt g gr s left a2 e2 w2 ∧ Touch (RF g gr) w1 w2 ∧ nm.size ≤ 64 from ⟨hs2, ht2, hnm⟩); have HR2 := Lib.hid hr2; clear hs2 hr2 ht2 hnm)
    | fail)
  obtain ⟨bx, hbx⟩ : ∃ bx, bx = w2.heap.size := ⟨_, rfl⟩
  obtain ⟨w3, hw3⟩ : ∃ w3, w3 = w2.alloc (.cells #[.string nm, .int .i64 0, .string ⟨#[]⟩, .string ⟨#[]⟩, .int .u8 0, .string ⟨#[]⟩, .slice none 0 0, .slice none 0 0, .slice none 0 0, .slice none 0 0, .slice none 0 0, .slice none 0 0, .slice none 0 0, .slice none 0 0, .slice none 0 0] 29) := ⟨_, rfl⟩
  have HP3 := Lib.hid (show PkSt w b bx (bx + 1) ⟨nm, 0, emp, emp, 0, emp, [], (ofL 0 []), (ofL 0 []), [], (ofL 0 []), (ofL 0 []), (ofL 0 []), (ofL 0 []), []⟩ ⟨(.slice none 0 0), (.slice none 0 0), (.slice none 0 0), (.slice none 0 0), (.slice none 0 0), (.slice none 0 0), (.slice none 0 0), (.slice none 0 0), (.slice none 0 0)⟩ g gr s left a2 e2 w3 from by
    obtain ⟨h1, h2, h3, h4, h5, h6, h7⟩ := HS1.out
    have h8 := HQ2.out.2.1.size
    have hb3 : Below w2.heap.size w2 w3 := by rw [hw3]; exact new_b _ _
    have hz2 := h1.far HQ2.out.2.1 h2 (by decide) (by decide)
    refine ⟨HQ2.out.1.below hb3, hz2.below hb3 hz2.lt, by rw [hbx, hw3]; exact Blk.new _ _ _, zero_in _ _ HQ2.out.2.2, (h3.trans HQ2.out.2.1 fun _ _ h => h).trans (Touch.of_below hb3 (RF g gr)) fun _ _ h => h, ⟨by omega, by omega, by omega, by omega, by rw [hw3, hbx]; simp, by omega, by omega⟩, by omega⟩)
  rw [← hw3, ← hbx]
  have HBx := Lib.hid hbx
  clear hw3 hbx c0 HC HA HQ2
  have HC := Lib.hid (crevr_any HP3.out.rs)
  go_upto_region 4 with (first
    | (go_at_call 134; (with_reducible refine HC.out.mono ?_); rintro rr w4 ⟨ep, ver, rel, a4, e4, rfl, ⟨hx0, hx1, hx2, hx3⟩, hs, hr, ht⟩; have HP4 := Lib.hid (HP3.out.call hs ht); have HR4 := Lib.hid hr; have HEv := Lib.hid (show (0 ≤ ep ∧ ep ≤ 2147483647) ∧ ver.size ≤ 64 ∧ rel.size ≤ 64 from ⟨⟨hx0, hx1⟩, hx2, hx3⟩); clear hx0 hx1 hx2 hx3; have y1 : w4.cell? ⟨bx, 1, none⟩ = some (.int .i64 0) := HP4.out.rx.cell 1; have yf1 := HP4.out.rx.frozen 1; have y2 : w4.cell? ⟨bx, 2, none⟩ = some (.string ⟨#[]⟩) := HP4.out.rx.cell 2; have yf2 := HP4.out.rx.frozen 2; have y3 : w4.cell? ⟨bx, 3, none⟩ = some (.string ⟨#[]⟩) := HP4.out.rx.cell 3; have yf3 := HP4.out.rx.frozen 3; have yl : bx < w4.heap.size := HP4.out.rx.lt; clear hs hr ht)
    | fail)
  obtain ⟨w5, hw⟩ : ∃ w5, w5 = ((w4.setCell ⟨bx, 1, none⟩ (.int .i64 ep)).setCell ⟨bx, 2, none⟩ (.string ver)).setCell ⟨bx, 3, none⟩ (.string rel) := ⟨_, rfl⟩
  have HP5 := Lib.hid (show PkSt w b bx (bx + 1) ⟨nm, ep, ver, rel, 0, emp, [], (ofL 0 []), (ofL 0 []), [], (ofL 0 []), (ofL 0 []), (ofL 0 []), (ofL 0 []), []⟩ ⟨(.slice none 0 0), (.slice none 0 0), (.slice none 0 0), (.slice none 0 0), (.slice none 0 0), (.slice none 0 0), (.slice none 0 0), (.slice none 0 0), (.slice none 0 0)⟩ g gr s left a4 e4 w5 from hw ▸ (PkSt.put (p' := ⟨nm, ep, ver, rel, 0, emp, [], (ofL 0 []), (ofL 0 []), [], (ofL 0 []), (ofL 0 []), (ofL 0 []), (ofL 0 []), []⟩) (r' := ⟨(.slice none 0 0), (.slice none 0 0), (.slice none 0 0), (.slice none 0 0), (.slice none 0 0), (.slice none 0 0), (.slice none 0 0), (.slice none 0 0), (.slice none 0 0)⟩) (PkSt.put (p' := ⟨nm, ep, ver, emp, 0, emp, [], (ofL 0 []), (ofL 0 []), [], (ofL 0 []), (ofL 0 []), (ofL 0 []), (ofL 0 []), []⟩) (r' := ⟨(.slice none 0 0), (.slice none 0 0), (.slice none 0 0), (.slice none 0 0), (.slice none 0 0), (.slice none 0 0), (.slice none 0 0), (.slice none 0 0), (.slice none 0 0)⟩) (PkSt.put (p' := ⟨nm, ep, emp, emp, 0, emp, [], (ofL 0 []), (ofL 0 []), [], (ofL 0 []), (ofL 0 []), (ofL 0 []), (ofL 0 []), []⟩) (r' := ⟨(.slice none 0 0), (.slice none 0 0), (.slice none 0 0), (.slice none 0 0), (.slice none 0 0), (.slice none 0 0), (.slice none 0 0), (.slice none 0 0), (.slice none 0 0)⟩) HP4.out 1 (.int .i64 ep) rfl (HP4.out.inn.ep_ HEv.out.1)) 2 (.string ver) rfl ((PkSt.put (p' := ⟨nm, ep, emp, emp, 0, emp, [], (ofL 0 []), (ofL 0 []), [], (ofL 0 []), (ofL 0 []), (ofL 0 []), (ofL 0 []), []⟩) (r' := ⟨(.slice none 0 0), (.slice none 0 0), (.slice none 0 0), (.slice none 0 0), (.slice none 0 0), (.slice none 0 0), (.slice none 0 0), (.slice none 0 0), (.slice none 0 0)⟩) HP4.out 1 (.int .i64 ep) rfl (HP4.out.inn.ep_ HEv.out.1)).inn.ver_ HEv.out.2.1)) 3 (.string rel) rfl ((PkSt.put (p' := ⟨nm, ep, ver, emp, 0, emp, [], (ofL 0 []), (ofL 0 []), [], (ofL 0 []), (ofL 0 []), (ofL 0 []), (ofL 0 []), []⟩) (r' := ⟨(.slice none 0 0), (.slice none 0 0), (.slice none 0 0), (.slice none 0 0), (.slice none 0 0), (.slice none 0 0), (.slice none 0 0), (.slice none 0 0), (.slice none 0 0)⟩) (PkSt.put (p' := ⟨nm, ep, emp, emp, 0, emp, [], (ofL 0 []), (ofL 0 []), [], (ofL 0 []), (ofL 0 []), (ofL 0 []), (ofL 0 []), []⟩) (r' := ⟨(.slice none 0 0), (.slice none 0 0), (.slice none 0 0), (.slice none 0 0), (.slice none 0 0), (.slice none 0 0), (.slice none 0 0), (.slice none 0 0), (.slice none 0 0)⟩) HP4.out 1 (.int .i64 ep) rfl (HP4.out.inn.ep_ HEv.out.1)) 2 (.string ver) rfl ((PkSt.put (p' := ⟨nm, ep, emp, emp, 0, emp, [], (ofL 0 []), (ofL 0 []), [], (ofL 0 []), (ofL 0 []), (ofL 0 []), (ofL 0 []), []⟩) (r' := ⟨(.slice none 0 0), (.slice none 0 0), (.slice none 0 0), (.slice none 0 0), (.slice none 0 0), (.slice none 0 0), (.slice none 0 0), (.slice none 0 0), (.slice none 0 0)⟩) HP4.out 1 (.int .i64 ep) rfl (HP4.out.inn.ep_ HEv.out.1)).inn.ver_ HEv.out.2.1)).inn.rel_ HEv.out.2.2)))
  rw [← hw]
  clear hw HC HP3 HP4
  clear y1 yf1 y2 yf2 y3 yf3 yl
  have c0 : w5.cell? ⟨g, 0, none⟩ = some (.pointer (some ⟨gr, 0, none⟩)) := HP5.out.rs.rb.cell 0
  have HC := Lib.hid (crnum_any 1 4 (by decide) HP5.out.rs)
  go_upto_region 5 with (first
    | (go_at_call 83; (with_reducible refine HC.out.mono ?_); rintro rr w6 ⟨ar, a6, e6, rfl, har, hs, hr, ht, hl7, hz7⟩; clear hl7 hz7; have hwr8 : IntKind.u8.wrap (ar : Int) = (ar : Int) := (by (rw [IntKind.wrap_u8']; omega)); have HP6 := Lib.hid (HP5.out.call hs ht); have HR6 := Lib.hid hr; have y4 : w6.cell? ⟨bx, 4, none⟩ = some (.int .u8 0) := HP6.out.rx.cell 4; have yf4 := HP6.out.rx.frozen 4; have yl : bx < w6.heap.size := HP6.out.rx.lt; clear hs hr ht)
    | fail)
  obtain ⟨w7, hw⟩ : ∃ w7, w7 = w6.setCell ⟨bx, 4, none⟩ (.int .u8 (ar : Int)) := ⟨_, rfl⟩
  have HP7 := Lib.hid (show PkSt w b bx (bx + 1) ⟨nm, ep, ver, rel, (ar : Int), emp, [], (ofL 0 []), (ofL 0 []), [], (ofL 0 []), (ofL 0 []), (ofL 0 []), (ofL 0 []), []⟩ ⟨(.slice none 0 0), (.slice none 0 0), (.slice none 0 0), (.slice none 0 0), (.slice none 0 0), (.slice none 0 0), (.slice none 0 0), (.slice none 0 0), (.slice none 0 0)⟩ g gr s left a6 e6 w7 from hw ▸ (PkSt.put (p' := ⟨nm, ep, ver, rel, (ar : Int), emp, [], (ofL 0 []), (ofL 0 []), [], (ofL 0 []), (ofL 0 []), (ofL 0 []), (ofL 0 []), []⟩) (r' := ⟨(.slice none 0 0), (.slice none 0 0), (.slice none 0 0), (.slice none 0 0), (.slice none 0 0), (.slice none 0 0), (.slice none 0 0), (.slice none 0 0), (.slice none 0 0)⟩) HP6.out 4 (.int .u8 (ar : Int)) rfl (HP6.out.inn.arch_ (by omega))))
  rw [← hw]
  clear hw HC HP5 HP6
  clear y4 yf4 yl
  have HC := Lib.hid (crname_any HP7.out.rs)
  go_upto_region 6 with (first
    | (go_at_call 133; (with_reducible refine HC.out.mono ?_); rintro rr w8 ⟨vd, v8, a8, e8, rfl, ⟨rfl, hvd⟩, hs, hr, ht⟩; have HP8 := Lib.hid (HP7.out.call hs ht); have HR8 := Lib.hid hr; have HVd := Lib.hid hvd; clear hvd; have y5 : w8.cell? ⟨bx, 5, none⟩ = some (.string ⟨#[]⟩) := HP8.out.rx.cell 5; have yf5 := HP8.out.rx.frozen 5; have yl : bx < w8.heap.size := HP8.out.rx.lt; clear hs hr ht)
    | fail)
  obtain ⟨w9, hw⟩ : ∃ w9, w9 = w8.setCell ⟨bx, 5, none⟩ (.string vd) := ⟨_, rfl⟩
  have HP9 := Lib.hid (show PkSt w b bx (bx + 1) ⟨nm, ep, ver, rel, (ar : Int), vd, [], (ofL 0 []), (ofL 0 []), [], (ofL 0 []), (ofL 0 []), (ofL 0 []), (ofL 0 []), []⟩ ⟨(.slice none 0 0), (.slice none 0 0), (.slice none 0 0), (.slice none 0 0), (.slice none 0 0), (.slice none 0 0), (.slice none 0 0), (.slice none 0 0), (.slice none 0 0)⟩ g gr s left a8 e8 w9 from hw ▸ (PkSt.put (p' := ⟨nm, ep, ver, rel, (ar : Int), vd, [], (ofL 0 []), (ofL 0 []), [], (ofL 0 []), (ofL 0 []), (ofL 0 []), (ofL 0 []), []⟩) (r' := ⟨(.slice none 0 0), (.slice none 0 0), (.slice none 0 0), (.slice none 0 0), (.slice none 0 0), (.slice none 0 0), (.slice none 0 0), (.slice none 0 0), (.slice none 0 0)⟩) HP8.out 5 (.string vd) rfl (HP8.out.inn.vendor_ HVd.out)))
  rw [← hw]
  clear hw HC HP7 HP8
  clear y5 yf5 yl
  have HC := Lib.hid (crdeps_any HP9.out.rs)
  go_upto_region 7 with (first
    | (go_at_call 135; (with_reducible refine HC.out.mono ?_); rintro rr w10 ⟨pv, vpv, a10, e10, rfl, hl, hs, hr, ht⟩; have HP10 := Lib.hid (HP9.out.call hs ht); have HR10 := Lib.hid hr; obtain ⟨cpv, qpv, rfl⟩ := hl.form; have HL10 := Lib.hid (LIn.more (n := bx + 1) (by have := HP9.out.lo; omega) hl); clear hl; have y6 : w10.cell? ⟨bx, 6, none⟩ = some (.slice none 0 0) := HP10.out.rx.cell 6; have yf6 := HP10.out.rx.frozen 6; have yl : bx < w10.heap.size := HP10.out.rx.lt; clear hs hr ht)
    | fail)
  obtain ⟨w11, hw⟩ : ∃ w11, w11 = w10.setCell ⟨bx, 6, none⟩ (.slice cpv pv.length qpv) := ⟨_, rfl⟩
  have HP11 := Lib.hid (show PkSt w b bx (bx + 1) ⟨nm, ep, ver, rel, (ar : Int), vd, pv, (ofL 0 []), (ofL 0 []), [], (ofL 0 []), (ofL 0 []), (ofL 0 []), (ofL 0 []), []⟩ ⟨(.slice cpv pv.length qpv), (.slice none 0 0), (.slice none 0 0), (.slice none 0 0), (.slice none 0 0), (.slice none 0 0), (.slice none 0 0), (.slice none 0 0), (.slice none 0 0)⟩ g gr s left a10 e10 w11 from hw ▸ (PkSt.put (p' := ⟨nm, ep, ver, rel, (ar : Int), vd, pv, (ofL 0 []), (ofL 0 []), [], (ofL 0 []), (ofL 0 []), (ofL 0 []), (ofL 0 []), []⟩) (r' := ⟨(.slice cpv pv.length qpv), (.slice none 0 0), (.slice none 0 0), (.slice none 0 0), (.slice none 0 0), (.slice none 0 0), (.slice none 0 0), (.slice none 0 0), (.slice none 0 0)⟩) HP10.out 6 (.slice cpv pv.length qpv) rfl (HP10.out.inn.prov_ HL10.out)))
  rw [← hw]
  clear hw HC HP9 HP10
  clear y6 yf6 yl
  have HC := Lib.hid (crriches_any HP11.out.rs)
  go_upto_region 8 with (first
    | (go_at_call 136; (with_reducible refine HC.out.mono ?_); rintro rr w12 ⟨rq, vrq, a12, e12, rfl, ⟨hl, hfit⟩, hs, hr, ht⟩; have HP12 := Lib.hid (HP11.out.call hs ht); have HR12 := Lib.hid hr; obtain ⟨crq, qrq, rfl⟩ := hl.form; have HL12 := Lib.hid (LIn.more (n := bx + 1) (by have := HP11.out.lo; omega) hl); clear hl hfit; have y7 : w12.cell? ⟨bx, 7, none⟩ = some (.slice none 0 0) := HP12.out.rx.cell 7; have yf7 := HP12.out.rx.frozen 7; have yl : bx < w12.heap.size := HP12.out.rx.lt; clear hs hr ht)
    | fail)
  obtain ⟨w13, hw⟩ : ∃ w13, w13 = w12.setCell ⟨bx, 7, none⟩ (.slice crq (argL rq).length qrq) := ⟨_, rfl⟩
  have HP13 := Lib.hid (show PkSt w b bx (bx + 1) ⟨nm, ep, ver, rel, (ar : Int), vd, pv, rq, (ofL 0 []), [], (ofL 0 []), (ofL 0 []), (ofL 0 []), (ofL 0 []), []⟩ ⟨(.slice cpv pv.length qpv), (.slice crq (argL rq).length qrq), (.slice none 0 0), (.slice none 0 0), (.slice none 0 0), (.slice none 0 0), (.slice none 0 0), (.slice none 0 0), (.slice none 0 0)⟩ g gr s left a12 e12 w13 from hw ▸ (PkSt.put (p' := ⟨nm, ep, ver, rel, (ar : Int), vd, pv, rq, (ofL 0 []), [], (ofL 0 []), (ofL 0 []), (ofL 0 []), (ofL 0 []), []⟩) (r' := ⟨(.slice cpv pv.length qpv), (.slice crq (argL rq).length qrq), (.slice none 0 0), (.slice none 0 0), (.slice none 0 0), (.slice none 0 0), (.slice none 0 0), (.slice none 0 0), (.slice none 0 0)⟩) HP12.out 7 (.slice crq (argL rq).length qrq) rfl (HP12.out.inn.req_ HL12.out)))
  rw [← hw]
  clear hw HC HP11 HP12
  clear y7 yf7 yl
  have HC := Lib.hid (crriches_any HP13.out.rs)
  go_upto_region 9 with (first
    | (go_at_call 136; (with_reducible refine HC.out.mono ?_); rintro rr w14 ⟨cn, vcn, a14, e14, rfl, ⟨hl, hfit⟩, hs, hr, ht⟩; have HP14 := Lib.hid (HP13.out.call hs ht); have HR14 := Lib.hid hr; obtain ⟨ccn, qcn, rfl⟩ := hl.form; have HL14 := Lib.hid (LIn.more (n := bx + 1) (by have := HP13.out.lo; omega) hl); clear hl hfit; have y8 : w14.cell? ⟨bx, 8, none⟩ = some (.slice none 0 0) := HP14.out.rx.cell 8; have yf8 := HP14.out.rx.frozen 8; have yl : bx < w14.heap.size := HP14.out.rx.lt; clear hs hr ht)
    | fail)
  obtain ⟨w15, hw⟩ : ∃ w15, w15 = w14.setCell ⟨bx, 8, none⟩ (.slice ccn (argL cn).length qcn) := ⟨_, rfl⟩
  have HP15 := Lib.hid (show PkSt w b bx (bx + 1) ⟨nm, ep, ver, rel, (ar : Int), vd, pv, rq, cn, [], (ofL 0 []), (ofL 0 []), (ofL 0 []), (ofL 0 []), []⟩ ⟨(.slice cpv pv.length qpv), (.slice crq (argL rq).length qrq), (.slice ccn (argL cn).length qcn), (.slice none 0 0), (.slice none 0 0), (.slice none 0 0), (.slice none 0 0), (.slice none 0 0), (.slice none 0 0)⟩ g gr s left a14 e14 w15 from hw ▸ (PkSt.put (p' := ⟨nm, ep, ver, rel, (ar : Int), vd, pv, rq, cn, [], (ofL 0 []), (ofL 0 []), (ofL 0 []), (ofL 0 []), []⟩) (r' := ⟨(.slice cpv pv.length qpv), (.slice crq (argL rq).length qrq), (.slice ccn (argL cn).length qcn), (.slice none 0 0), (.slice none 0 0), (.slice none 0 0), (.slice none 0 0), (.slice none 0 0), (.slice none 0 0)⟩) HP14.out 8 (.slice ccn (argL cn).length qcn) rfl (HP14.out.inn.con_ HL14.out)))
  rw [← hw]
  clear hw HC HP13 HP14
  clear y8 yf8 yl
  have HC := Lib.hid (crdeps_any HP15.out.rs)
  go_upto_region 10 with (first
    | (go_at_call 135; (with_reducible refine HC.out.mono ?_); rintro rr w16 ⟨ob, vob, a16, e16, rfl, hl, hs, hr, ht⟩; have HP16 := Lib.hid (HP15.out.call hs ht); have HR16 := Lib.hid hr; obtain ⟨cob, qob, rfl⟩ := hl.form; have HL16 := Lib.hid (LIn.more (n := bx + 1) (by have := HP15.out.lo; omega) hl); clear hl; have y9 : w16.cell? ⟨bx, 9, none⟩ = some (.slice none 0 0) := HP16.out.rx.cell 9; have yf9 := HP16.out.rx.frozen 9; have yl : bx < w16.heap.size := HP16.out.rx.lt; clear hs hr ht)
    | fail)
  obtain ⟨w17, hw⟩ : ∃ w17, w17 = w16.setCell ⟨bx, 9, none⟩ (.slice cob ob.length qob) := ⟨_, rfl⟩
  have HP17 := Lib.hid (show PkSt w b bx (bx + 1) ⟨nm, ep, ver, rel, (ar : Int), vd, pv, rq, cn, ob, (ofL 0 []), (ofL 0 []), (ofL 0 []), (ofL 0 []), []⟩ ⟨(.slice cpv pv.length qpv), (.slice crq (argL rq).length qrq), (.slice ccn (argL cn).length qcn), (.slice cob ob.length qob), (.slice none 0 0), (.slice none 0 0), (.slice none 0 0), (.slice none 0 0), (.slice none 0 0)⟩ g gr s left a16 e16 w17 from hw ▸ (PkSt.put (p' := ⟨nm, ep, ver, rel, (ar : Int), vd, pv, rq, cn, ob, (ofL 0 []), (ofL 0 []), (ofL 0 []), (ofL 0 []), []⟩) (r' := ⟨(.slice cpv pv.length qpv), (.slice crq (argL rq).length qrq), (.slice ccn (argL cn).length qcn), (.slice cob ob.length qob), (.slice none 0 0), (.slice none 0 0), (.slice none 0 0), (.slice none 0 0), (.slice none 0 0)⟩) HP16.out 9 (.slice cob ob.length qob) rfl (HP16.out.inn.obs_ HL16.out)))
  rw [← hw]
  clear hw HC HP15 HP16
  clear y9 yf9 yl
  have HP18 := Lib.hid (HP17.out.below (new_b w17 (.cells (arr4 bx) 175)))
  have HB0 := Lib.hid (Blk.new w17 175 (arr4 bx))
  have HRs := Lib.hid (show ∀ y at2 e2', Res (rest4 (fun r1 r2 r3 r4 => rBind pFiles fun files => rPure (PkgD.mk nm ep ver rel (ar : Int) vd pv rq cn ob r1 r2 r3 r4 files)) (fun _ => ofL 0 []) 0) s a16 e16 y at2 e2' → Res pBody s at_ e y at2 e2' from fun y at2 e2' hy => res_bind HR2.out (res_bind HR4.out (res_bind HR6.out (res_bind HR8.out (res_bind HR10.out (res_bind HR12.out (res_bind HR14.out (res_bind HR16.out hy))))))))
  clear HP17 HR2 HR4 HR6 HR8 HR10 HR12 HR14 HR16
  go_wp2_with fail
  go_loopw [46] (fun i wr => ∃ (k a : Nat) (e1 : Int) (L : Nat → RichD) (V : Nat → Value), k ≤ 4 ∧ i = .int .i64 k ∧ Hid (PkSt w b bx (bx + 1) ⟨nm, ep, ver, rel, (ar : Int), vd, pv, rq, cn, ob, (L 0), (L 1), (L 2), (L 3), []⟩ ⟨(.slice cpv pv.length qpv), (.slice crq (argL rq).length qrq), (.slice ccn (argL cn).length qcn), (.slice cob ob.length qob), (V 0), (V 1), (V 2), (V 3), (.slice none 0 0)⟩ g gr s left a e1 wr ∧ Blk wr w17.heap.size 175 (arr4 bx) ∧ ∀ y at2 e2', Res (rest4 (fun r1 r2 r3 r4 => rBind pFiles fun files => rPure (PkgD.mk nm ep ver rel (ar : Int) vd pv rq cn ob r1 r2 r3 r4 files)) L k) s a e1 y at2 e2' → Res pBody s at_ e y at2 e2')) (fun i _ => 4 - (intOf i).toNat)
  case atStart => exact ⟨0, a16, e16, fun _ => ofL 0 [], fun _ => .slice none 0 0, by omega, rfl, ⟨HP18.out, HB0.out, HRs.out⟩⟩
  case round =>
    obtain ⟨k, a, e1, L, V, hk, rfl, HQ⟩ := hrel
    clear HP18 HB0 HRs
    by_cases hlt : k < 4
    · have hki : (k : Int) < 4 := by omega
      have cA : wr.cell? ⟨w17.heap.size, k, none⟩ = some (.pointer (some ⟨bx, 10 + k, none⟩)) := arr_cell HQ.out.2.1 hlt
      have cl := HQ.out.2.1.lt
      have HC := Lib.hid (crriches_any HQ.out.1.rs)
      go_wp2_with (first
        | (go_at_call 136; (with_reducible refine HC.out.mono ?_); rintro rr w19 ⟨x, vx, a19, e19, rfl, ⟨hl, hfit⟩, hs, hr, ht⟩; obtain ⟨cx, qx, rfl⟩ := hl.form; have HPn := Lib.hid (HQ.out.1.call hs ht); have HBn := Lib.hid (HQ.out.1.rs.far ht HQ.out.2.1 (by decide) (by decide)); have HLn := Lib.hid (LIn.more (n := bx + 1) (by have := HQ.out.1.lo; omega) hl); have HRn := Lib.hid hr; have yk := (pkg_cell HPn.out.rx hlt).1; have yf := (pkg_cell HPn.out.rx hlt).2; have yl := HPn.out.rx.lt; clear hs hr ht hl hfit)
        | fail)
      go_roundw
      case rel => exact ⟨k + 1, a19, e19, upd L k x, upd V k _, by omega, by go_num, ⟨HPn.out.four hlt HLn.out, HBn.out.far (HBn.out.ne_ HPn.out.rx (by decide)) _, fun y at2 e2' hy => HQ.out.2.2 y at2 e2' (rest4_step hlt HRn.out hy)⟩⟩
      case measure => simp [intOf]; omega
    · obtain rfl : k = 4 := by omega
      obtain ⟨l0, l1, l2, l3, v0, v1, v2, v3, HQ4⟩ : ∃ (l0 l1 l2 l3 : RichD) (v0 v1 v2 v3 : Value), Hid (PkSt w b bx (bx + 1) ⟨nm, ep, ver, rel, (ar : Int), vd, pv, rq, cn, ob, l0, l1, l2, l3, []⟩ ⟨(.slice cpv pv.length qpv), (.slice crq (argL rq).length qrq), (.slice ccn (argL cn).length qcn), (.slice cob ob.length qob), v0, v1, v2, v3, (.slice none 0 0)⟩ g gr s left a e1 wr ∧ ∀ y at2 e2', Res ((fun r1 r2 r3 r4 => rBind pFiles fun files => rPure (PkgD.mk nm ep ver rel (ar : Int) vd pv rq cn ob r1 r2 r3 r4 files)) l0 l1 l2 l3) s a e1 y at2 e2' → Res pBody s at_ e y at2 e2') := ⟨L 0, L 1, L 2, L 3, V 0, V 1, V 2, V 3, HQ.out.1, HQ.out.2.2⟩
      clear HQ
      obtain ⟨d0, f0, (rfl : v0 = _)⟩ := HQ4.out.1.inn.reco.form
      obtain ⟨d1, f1, (rfl : v1 = _)⟩ := HQ4.out.1.inn.sup.form
      obtain ⟨d2, f2, (rfl : v2 = _)⟩ := HQ4.out.1.inn.sug.form
      obtain ⟨d3, f3, (rfl : v3 = _)⟩ := HQ4.out.1.inn.enh.form
      have HP20 := Lib.hid (show PkSt w b bx (bx + 1) ⟨nm, ep, ver, rel, (ar : Int), vd, pv, rq, cn, ob, l0, l1, l2, l3, []⟩ ⟨(.slice cpv pv.length qpv), (.slice crq (argL rq).length qrq), (.slice ccn (argL cn).length qcn), (.slice cob ob.length qob), (.slice d0 (argL l0).length f0), (.slice d1 (argL l1).length f1), (.slice d2 (argL l2).length f2), (.slice d3 (argL l3).length f3), (.slice none 0 0)⟩ g gr s left a e1 wr from HQ4.out.1)
      have HBd := Lib.hid (HQ4.out.2)
      clear HQ4
      have HC := Lib.hid (getS_any 0 32 (by decide) (by decide) (pText 64) (fun a e W hW _ => (crname_any hW).mono fun r w' ⟨x, v, a2, e2, h1, ⟨h2, h2'⟩, h3, h4, h5⟩ => ⟨x, v, a2, e2, h1, ⟨(), h2, by show x.size ≤ 9223372036854775807; omega⟩, h3, h4, h5⟩) HP20.out.rs)
      go_upto_region 16 with (first
        | (go_at_call 137; (with_reducible refine HC.out.mono ?_); rintro rr w21 ⟨fl, vf, a21, e21, rfl, hl, hs, hr, ht⟩; obtain ⟨cf, qf, rfl⟩ := hl.form; have HP21 := Lib.hid (HP20.out.call hs ht); have HL21 := Lib.hid (LIn.more (n := bx + 1) (by have := HP20.out.lo; omega) hl); have HR21 := Lib.hid (HBd.out _ _ _ (res_bind hr (res_pure _))); have y14 : w21.cell? ⟨bx, 14, none⟩ = some (.slice none 0 0) := HP21.out.rx.cell 14; have yf14 := HP21.out.rx.frozen 14; have yl : bx < w21.heap.size := HP21.out.rx.lt; clear hs hr ht hl)
        | fail)
      obtain ⟨w22, hw⟩ : ∃ w22, w22 = w21.setCell ⟨bx, 14, none⟩ (.slice cf fl.length qf) := ⟨_, rfl⟩
      have HP22 := Lib.hid (show PkSt w b bx (bx + 1) ⟨nm, ep, ver, rel, (ar : Int), vd, pv, rq, cn, ob, l0, l1, l2, l3, fl⟩ ⟨(.slice cpv pv.length qpv), (.slice crq (argL rq).length qrq), (.slice ccn (argL cn).length qcn), (.slice cob ob.length qob), (.slice d0 (argL l0).length f0), (.slice d1 (argL l1).length f1), (.slice d2 (argL l2).length f2), (.slice d3 (argL l3).length f3), (.slice cf fl.length qf)⟩ g gr s left a21 e21 w22 from hw ▸ HP21.out.put 14 (.slice cf fl.length qf) rfl (HP21.out.inn.files_ HL21.out))
      rw [← hw]
      clear hw HC HP20 HP21 HBd
      clear y14 yf14 yl
      have HF := Lib.hid (crfine_any HP22.out.rs)
      by_cases he : e21 = 0
      · have HF1 := Lib.hid (show Calls Tryz.prog 84 #[.pointer (some ⟨g, 0, none⟩)] w22 (fun r w' => r = .returned (.bool true) ∧ ∃ n, w' = w22.drewN n) from HF.out.mono fun r w' ⟨h1, h2⟩ => ⟨by rw [h1, he]; rfl, h2⟩)
        clear HF
        have HM := Lib.hid (show ∀ W, PkSt w b bx (bx + 1) ⟨nm, ep, ver, rel, (ar : Int), vd, pv, rq, cn, ob, l0, l1, l2, l3, fl⟩ ⟨(.slice cpv pv.length qpv), (.slice crq (argL rq).length qrq), (.slice ccn (argL cn).length qcn), (.slice cob ob.length qob), (.slice d0 (argL l0).length f0), (.slice d1 (argL l1).length f1), (.slice d2 (argL l2).length f2), (.slice d3 (argL l3).length f3), (.slice cf fl.length qf)⟩ g gr s left a21 e21 W → Calls Tryz.prog 34 #[.agg #[.string nm, .int .i64 ep, .string ver, .string rel, .int .u8 (ar : Int), .string vd, .slice cpv pv.length qpv, .slice crq (argL rq).length qrq, .slice ccn (argL cn).length qcn, .slice cob ob.length qob, .slice d0 (argL l0).length f0, .slice d1 (argL l1).length f1, .slice d2 (argL l2).length f2, .slice d3 (argL l3).length f3, .slice cf fl.length qf]] W (fun e w' => e = .returned (.bool (mayP ⟨nm, ep, ver, rel, (ar : Int), vd, pv, rq, cn, ob, l0, l1, l2, l3, fl⟩)) ∧ Below W.heap.size W w') from fun W hW => kmay_any W _ _ (hW.inn.keep (Nat.le_refl _) fun _ _ _ => ⟨rfl, trivial⟩) W (Below.refl _ _) (body_few (res_ok (he ▸ HR21.out))) (HTab.out W hW.tt).1 (HTab.out W hW.tt).2)
        by_cases hm : mayP ⟨nm, ep, ver, rel, (ar : Int), vd, pv, rq, cn, ob, l0, l1, l2, l3, fl⟩ = true
        · have HM1 := Lib.hid (show ∀ W, PkSt w b bx (bx + 1) ⟨nm, ep, ver, rel, (ar : Int), vd, pv, rq, cn, ob, l0, l1, l2, l3, fl⟩ ⟨(.slice cpv pv.length qpv), (.slice crq (argL rq).length qrq), (.slice ccn (argL cn).length qcn), (.slice cob ob.length qob), (.slice d0 (argL l0).length f0), (.slice d1 (argL l1).length f1), (.slice d2 (argL l2).length f2), (.slice d3 (argL l3).length f3), (.slice cf fl.length qf)⟩ g gr s left a21 e21 W → Calls Tryz.prog 34 #[.agg #[.string nm, .int .i64 ep, .string ver, .string rel, .int .u8 (ar : Int), .string vd, .slice cpv pv.length qpv, .slice crq (argL rq).length qrq, .slice ccn (argL cn).length qcn, .slice cob ob.length qob, .slice d0 (argL l0).length f0, .slice d1 (argL l1).length f1, .slice d2 (argL l2).length f2, .slice d3 (argL l3).length f3, .slice cf fl.length qf]] W (fun e w' => e = .returned (.bool true) ∧ Below W.heap.size W w') from fun W hW => (HM.out W hW).mono fun r w' ⟨h1, h2⟩ => ⟨by rw [h1, hm], h2⟩)
          clear HM
          go_upto_region 18 with (first
            | (go_at_call 84; (with_reducible refine HF1.out.mono ?_); rintro rr w23 ⟨rfl, n4, hw23⟩; have HP23 := Lib.hid (show PkSt w b bx (bx + 1) ⟨nm, ep, ver, rel, (ar : Int), vd, pv, rq, cn, ob, l0, l1, l2, l3, fl⟩ ⟨(.slice cpv pv.length qpv), (.slice crq (argL rq).length qrq), (.slice ccn (argL cn).length qcn), (.slice cob ob.length qob), (.slice d0 (argL l0).length f0), (.slice d1 (argL l1).length f1), (.slice d2 (argL l2).length f2), (.slice d3 (argL l3).length f3), (.slice cf fl.length qf)⟩ g gr s left a21 e21 w23 from hw23 ▸ HP22.out.drewN n4); clear hw23; have y0 : w23.cell? ⟨bx, 0, none⟩ = some (.string nm) := HP23.out.rx.cell 0; have yf0 := HP23.out.rx.frozen 0; have y1 : w23.cell? ⟨bx, 1, none⟩ = some (.int .i64 ep) := HP23.out.rx.cell 1; have yf1 := HP23.out.rx.frozen 1; have y2 : w23.cell? ⟨bx, 2, none⟩ = some (.string ver) := HP23.out.rx.cell 2; have yf2 := HP23.out.rx.frozen 2; have y3 : w23.cell? ⟨bx, 3, none⟩ = some (.string rel) := HP23.out.rx.cell 3; have yf3 := HP23.out.rx.frozen 3; have y4 : w23.cell? ⟨bx, 4, none⟩ = some (.int .u8 (ar : Int)) := HP23.out.rx.cell 4; have yf4 := HP23.out.rx.frozen 4; have y5 : w23.cell? ⟨bx, 5, none⟩ = some (.string vd) := HP23.out.rx.cell 5; have yf5 := HP23.out.rx.frozen 5; have y6 : w23.cell? ⟨bx, 6, none⟩ = some (.slice cpv pv.length qpv) := HP23.out.rx.cell 6; have yf6 := HP23.out.rx.frozen 6; have y7 : w23.cell? ⟨bx, 7, none⟩ = some (.slice crq (argL rq).length qrq) := HP23.out.rx.cell 7; have yf7 := HP23.out.rx.frozen 7; have y8 : w23.cell? ⟨bx, 8, none⟩ = some (.slice ccn (argL cn).length qcn) := HP23.out.rx.cell 8; have yf8 := HP23.out.rx.frozen 8; have y9 : w23.cell? ⟨bx, 9, none⟩ = some (.slice cob ob.length qob) := HP23.out.rx.cell 9; have yf9 := HP23.out.rx.frozen 9; have y10 : w23.cell? ⟨bx, 10, none⟩ = some (.slice d0 (argL l0).length f0) := HP23.out.rx.cell 10; have yf10 := HP23.out.rx.frozen 10; have y11 : w23.cell? ⟨bx, 11, none⟩ = some (.slice d1 (argL l1).length f1) := HP23.out.rx.cell 11; have yf11 := HP23.out.rx.frozen 11; have y12 : w23.cell? ⟨bx, 12, none⟩ = some (.slice d2 (argL l2).length f2) := HP23.out.rx.cell 12; have yf12 := HP23.out.rx.frozen 12; have y13 : w23.cell? ⟨bx, 13, none⟩ = some (.slice d3 (argL l3).length f3) := HP23.out.rx.cell 13; have yf13 := HP23.out.rx.frozen 13; have y14 : w23.cell? ⟨bx, 14, none⟩ = some (.slice cf fl.length qf) := HP23.out.rx.cell 14; have yf14 := HP23.out.rx.frozen 14; have yl : bx < w23.heap.size := HP23.out.rx.lt)
            | (go_at_call 34; (with_reducible refine (HM1.out _ HP23.out).mono ?_); rintro rr w24 ⟨rfl, hb⟩; have HP24 := Lib.hid (HP23.out.below hb); clear hb; clear y0 yf0 y1 yf1 y2 yf2 y3 yf3 y4 yf4 y5 yf5 y6 yf6 y7 yf7 y8 yf8 y9 yf9 y10 yf10 y11 yf11 y12 yf12 y13 yf13 y14 yf14 yl)
            | fail)
          have y0 : w24.cell? ⟨bx, 0, none⟩ = some (.string nm) := HP24.out.rx.cell 0
          have yf0 := HP24.out.rx.frozen 0
          have y1 : w24.cell? ⟨bx, 1, none⟩ = some (.int .i64 ep) := HP24.out.rx.cell 1
          have yf1 := HP24.out.rx.frozen 1
          have y2 : w24.cell? ⟨bx, 2, none⟩ = some (.string ver) := HP24.out.rx.cell 2
          have yf2 := HP24.out.rx.frozen 2
          have y3 : w24.cell? ⟨bx, 3, none⟩ = some (.string rel) := HP24.out.rx.cell 3
          have yf3 := HP24.out.rx.frozen 3
          have y4 : w24.cell? ⟨bx, 4, none⟩ = some (.int .u8 (ar : Int)) := HP24.out.rx.cell 4
          have yf4 := HP24.out.rx.frozen 4
          have y5 : w24.cell? ⟨bx, 5, none⟩ = some (.string vd) := HP24.out.rx.cell 5
          have yf5 := HP24.out.rx.frozen 5
          have y6 : w24.cell? ⟨bx, 6, none⟩ = some (.slice cpv pv.length qpv) := HP24.out.rx.cell 6
          have yf6 := HP24.out.rx.frozen 6
          have y7 : w24.cell? ⟨bx, 7, none⟩ = some (.slice crq (argL rq).length qrq) := HP24.out.rx.cell 7
          have yf7 := HP24.out.rx.frozen 7
          have y8 : w24.cell? ⟨bx, 8, none⟩ = some (.slice ccn (argL cn).length qcn) := HP24.out.rx.cell 8
          have yf8 := HP24.out.rx.frozen 8
          have y9 : w24.cell? ⟨bx, 9, none⟩ = some (.slice cob ob.length qob) := HP24.out.rx.cell 9
          have yf9 := HP24.out.rx.frozen 9
          have y10 : w24.cell? ⟨bx, 10, none⟩ = some (.slice d0 (argL l0).length f0) := HP24.out.rx.cell 10
          have yf10 := HP24.out.rx.frozen 10
          have y11 : w24.cell? ⟨bx, 11, none⟩ = some (.slice d1 (argL l1).length f1) := HP24.out.rx.cell 11
          have yf11 := HP24.out.rx.frozen 11
          have y12 : w24.cell? ⟨bx, 12, none⟩ = some (.slice d2 (argL l2).length f2) := HP24.out.rx.cell 12
          have yf12 := HP24.out.rx.frozen 12
          have y13 : w24.cell? ⟨bx, 13, none⟩ = some (.slice d3 (argL l3).length f3) := HP24.out.rx.cell 13
          have yf13 := HP24.out.rx.frozen 13
          have y14 : w24.cell? ⟨bx, 14, none⟩ = some (.slice cf fl.length qf) := HP24.out.rx.cell 14
          have yf14 := HP24.out.rx.frozen 14
          have yl : bx < w24.heap.size := HP24.out.rx.lt
          have z0 : w24.cell? ⟨b, 0, none⟩ = some (.string ⟨#[]⟩) := HP24.out.rz.cell 0
          have zf0 := HP24.out.rz.frozen 0
          have z1 : w24.cell? ⟨b, 1, none⟩ = some (.int .i64 0) := HP24.out.rz.cell 1
          have zf1 := HP24.out.rz.frozen 1
          have z2 : w24.cell? ⟨b, 2, none⟩ = some (.string ⟨#[]⟩) := HP24.out.rz.cell 2
          have zf2 := HP24.out.rz.frozen 2
          have z3 : w24.cell? ⟨b, 3, none⟩ = some (.string ⟨#[]⟩) := HP24.out.rz.cell 3
          have zf3 := HP24.out.rz.frozen 3
          have z4 : w24.cell? ⟨b, 4, none⟩ = some (.int .u8 0) := HP24.out.rz.cell 4
          have zf4 := HP24.out.rz.frozen 4
          have z5 : w24.cell? ⟨b, 5, none⟩ = some (.string ⟨#[]⟩) := HP24.out.rz.cell 5
          have zf5 := HP24.out.rz.frozen 5
          have z6 : w24.cell? ⟨b, 6, none⟩ = some (.slice none 0 0) := HP24.out.rz.cell 6
          have zf6 := HP24.out.rz.frozen 6
          have z7 : w24.cell? ⟨b, 7, none⟩ = some (.slice none 0 0) := HP24.out.rz.cell 7
          have zf7 := HP24.out.rz.frozen 7
          have z8 : w24.cell? ⟨b, 8, none⟩ = some (.slice none 0 0) := HP24.out.rz.cell 8
          have zf8 := HP24.out.rz.frozen 8
          have z9 : w24.cell? ⟨b, 9, none⟩ = some (.slice none 0 0) := HP24.out.rz.cell 9
          have zf9 := HP24.out.rz.frozen 9
          have z10 : w24.cell? ⟨b, 10, none⟩ = some (.slice none 0 0) := HP24.out.rz.cell 10
          have zf10 := HP24.out.rz.frozen 10
          have z11 : w24.cell? ⟨b, 11, none⟩ = some (.slice none 0 0) := HP24.out.rz.cell 11
          have zf11 := HP24.out.rz.frozen 11
          have z12 : w24.cell? ⟨b, 12, none⟩ = some (.slice none 0 0) := HP24.out.rz.cell 12
          have zf12 := HP24.out.rz.frozen 12
          have z13 : w24.cell? ⟨b, 13, none⟩ = some (.slice none 0 0) := HP24.out.rz.cell 13
          have zf13 := HP24.out.rz.frozen 13
          have z14 : w24.cell? ⟨b, 14, none⟩ = some (.slice none 0 0) := HP24.out.rz.cell 14
          have zf14 := HP24.out.rz.frozen 14
          have zl : b < w24.heap.size := HP24.out.rz.lt
          go_wp2_with fail
          obtain ⟨q1, q2, q3, q4⟩ := PkSt.done HP24.out
          exact bodyPost_ret (results_cell_row rfl _ _ b 29 _ (0, 0) _ rfl q1 Tryz.underlying29 rfl (by kernel_rfl)) rfl ⟨⟨nm, ep, ver, rel, (ar : Int), vd, pv, rq, cn, ob, l0, l1, l2, l3, fl⟩, _, a21, e21, rfl, ⟨⟨(.slice cpv pv.length qpv), (.slice crq (argL rq).length qrq), (.slice ccn (argL cn).length qcn), (.slice cob ob.length qob), (.slice d0 (argL l0).length f0), (.slice d1 (argL l1).length f1), (.slice d2 (argL l2).length f2), (.slice d3 (argL l3).length f3), (.slice cf fl.length qf)⟩, rfl, q2⟩, q3, res_at HR21.out (by rw [if_pos hm]; exact res_pure _), q4⟩
        · have HM1 := Lib.hid (show ∀ W, PkSt w b bx (bx + 1) ⟨nm, ep, ver, rel, (ar : Int), vd, pv, rq, cn, ob, l0, l1, l2, l3, fl⟩ ⟨(.slice cpv pv.length qpv), (.slice crq (argL rq).length qrq), (.slice ccn (argL cn).length qcn), (.slice cob ob.length qob), (.slice d0 (argL l0).length f0), (.slice d1 (argL l1).length f1), (.slice d2 (argL l2).length f2), (.slice d3 (argL l3).length f3), (.slice cf fl.length qf)⟩ g gr s left a21 e21 W → Calls Tryz.prog 34 #[.agg #[.string nm, .int .i64 ep, .string ver, .string rel, .int .u8 (ar : Int), .string vd, .slice cpv pv.length qpv, .slice crq (argL rq).length qrq, .slice ccn (argL cn).length qcn, .slice cob ob.length qob, .slice d0 (argL l0).length f0, .slice d1 (argL l1).length f1, .slice d2 (argL l2).length f2, .slice d3 (argL l3).length f3, .slice cf fl.length qf]] W (fun e w' => e = .returned (.bool false) ∧ Below W.heap.size W w') from fun W hW => (HM.out W hW).mono fun r w' ⟨h1, h2⟩ => ⟨by rw [h1, (Bool.not_eq_true _).mp hm], h2⟩)
          clear HM
          have HQ5 := Lib.hid (res_mono (good_body 0) (he ▸ HR21.out) HAt.out)
          have HFl := Lib.hid (show ∀ W, PkSt w b bx (bx + 1) ⟨nm, ep, ver, rel, (ar : Int), vd, pv, rq, cn, ob, l0, l1, l2, l3, fl⟩ ⟨(.slice cpv pv.length qpv), (.slice crq (argL rq).length qrq), (.slice ccn (argL cn).length qcn), (.slice cob ob.length qob), (.slice d0 (argL l0).length f0), (.slice d1 (argL l1).length f1), (.slice d2 (argL l2).length f2), (.slice d3 (argL l3).length f3), (.slice cf fl.length qf)⟩ g gr s left a21 e21 W → Calls Tryz.prog 138 #[.pointer (some ⟨gr, 0, none⟩), .int .i64 (at_ : Int), .int .i64 4] W (fun r w' => r = .returned (.int .i64 4) ∧ Blk w' gr 135 (RB s at_ 4) ∧ Touch (· = gr) W w') from fun W hW => by
            have h1 := fail_any gr s a21 e21 at_ 4 W hW.rs.wr hW.rs.hat (by have := hW.rs.hs; omega)
            rw [show eFail a21 e21 at_ 4 = (4, at_, 4) from by rw [he]; unfold eFail; rw [if_neg (by simp), if_neg (by have := HQ5.out; simp; omega), Int.toNat_natCast]] at h1
            exact h1)
          go_upto_region 18 with (first
            | (go_at_call 84; (with_reducible refine HF1.out.mono ?_); rintro rr w23 ⟨rfl, n4, hw23⟩; have HP23 := Lib.hid (show PkSt w b bx (bx + 1) ⟨nm, ep, ver, rel, (ar : Int), vd, pv, rq, cn, ob, l0, l1, l2, l3, fl⟩ ⟨(.slice cpv pv.length qpv), (.slice crq (argL rq).length qrq), (.slice ccn (argL cn).length qcn), (.slice cob ob.length qob), (.slice d0 (argL l0).length f0), (.slice d1 (argL l1).length f1), (.slice d2 (argL l2).length f2), (.slice d3 (argL l3).length f3), (.slice cf fl.length qf)⟩ g gr s left a21 e21 w23 from hw23 ▸ HP22.out.drewN n4); clear hw23; have y0 : w23.cell? ⟨bx, 0, none⟩ = some (.string nm) := HP23.out.rx.cell 0; have yf0 := HP23.out.rx.frozen 0; have y1 : w23.cell? ⟨bx, 1, none⟩ = some (.int .i64 ep) := HP23.out.rx.cell 1; have yf1 := HP23.out.rx.frozen 1; have y2 : w23.cell? ⟨bx, 2, none⟩ = some (.string ver) := HP23.out.rx.cell 2; have yf2 := HP23.out.rx.frozen 2; have y3 : w23.cell? ⟨bx, 3, none⟩ = some (.string rel) := HP23.out.rx.cell 3; have yf3 := HP23.out.rx.frozen 3; have y4 : w23.cell? ⟨bx, 4, none⟩ = some (.int .u8 (ar : Int)) := HP23.out.rx.cell 4; have yf4 := HP23.out.rx.frozen 4; have y5 : w23.cell? ⟨bx, 5, none⟩ = some (.string vd) := HP23.out.rx.cell 5; have yf5 := HP23.out.rx.frozen 5; have y6 : w23.cell? ⟨bx, 6, none⟩ = some (.slice cpv pv.length qpv) := HP23.out.rx.cell 6; have yf6 := HP23.out.rx.frozen 6; have y7 : w23.cell? ⟨bx, 7, none⟩ = some (.slice crq (argL rq).length qrq) := HP23.out.rx.cell 7; have yf7 := HP23.out.rx.frozen 7; have y8 : w23.cell? ⟨bx, 8, none⟩ = some (.slice ccn (argL cn).length qcn) := HP23.out.rx.cell 8; have yf8 := HP23.out.rx.frozen 8; have y9 : w23.cell? ⟨bx, 9, none⟩ = some (.slice cob ob.length qob) := HP23.out.rx.cell 9; have yf9 := HP23.out.rx.frozen 9; have y10 : w23.cell? ⟨bx, 10, none⟩ = some (.slice d0 (argL l0).length f0) := HP23.out.rx.cell 10; have yf10 := HP23.out.rx.frozen 10; have y11 : w23.cell? ⟨bx, 11, none⟩ = some (.slice d1 (argL l1).length f1) := HP23.out.rx.cell 11; have yf11 := HP23.out.rx.frozen 11; have y12 : w23.cell? ⟨bx, 12, none⟩ = some (.slice d2 (argL l2).length f2) := HP23.out.rx.cell 12; have yf12 := HP23.out.rx.frozen 12; have y13 : w23.cell? ⟨bx, 13, none⟩ = some (.slice d3 (argL l3).length f3) := HP23.out.rx.cell 13; have yf13 := HP23.out.rx.frozen 13; have y14 : w23.cell? ⟨bx, 14, none⟩ = some (.slice cf fl.length qf) := HP23.out.rx.cell 14; have yf14 := HP23.out.rx.frozen 14; have yl : bx < w23.heap.size := HP23.out.rx.lt)
            | (go_at_call 34; (with_reducible refine (HM1.out _ HP23.out).mono ?_); rintro rr w24 ⟨rfl, hb⟩; have HP24 := Lib.hid (HP23.out.below hb); clear hb; clear y0 yf0 y1 yf1 y2 yf2 y3 yf3 y4 yf4 y5 yf5 y6 yf6 y7 yf7 y8 yf8 y9 yf9 y10 yf10 y11 yf11 y12 yf12 y13 yf13 y14 yf14 yl; have c0 : w24.cell? ⟨g, 0, none⟩ = some (.pointer (some ⟨gr, 0, none⟩)) := HP24.out.rs.rb.cell 0)
            | (go_at_call 138; (with_reducible refine (HFl.out _ HP24.out).mono ?_); rintro rr w25 ⟨rfl, hb6, ht6⟩; have hs6 := HP24.out.rs.wire hb6 ht6 HAt.out; have HP25 := Lib.hid (HP24.out.call hs6.1 hs6.2); clear hs6 hb6 ht6 c0)
            | fail)
          have y0 : w25.cell? ⟨bx, 0, none⟩ = some (.string nm) := HP25.out.rx.cell 0
          have yf0 := HP25.out.rx.frozen 0
          have y1 : w25.cell? ⟨bx, 1, none⟩ = some (.int .i64 ep) := HP25.out.rx.cell 1
          have yf1 := HP25.out.rx.frozen 1
          have y2 : w25.cell? ⟨bx, 2, none⟩ = some (.string ver) := HP25.out.rx.cell 2
          have yf2 := HP25.out.rx.frozen 2
          have y3 : w25.cell? ⟨bx, 3, none⟩ = some (.string rel) := HP25.out.rx.cell 3
          have yf3 := HP25.out.rx.frozen 3
          have y4 : w25.cell? ⟨bx, 4, none⟩ = some (.int .u8 (ar : Int)) := HP25.out.rx.cell 4
          have yf4 := HP25.out.rx.frozen 4
          have y5 : w25.cell? ⟨bx, 5, none⟩ = some (.string vd) := HP25.out.rx.cell 5
          have yf5 := HP25.out.rx.frozen 5
          have y6 : w25.cell? ⟨bx, 6, none⟩ = some (.slice cpv pv.length qpv) := HP25.out.rx.cell 6
          have yf6 := HP25.out.rx.frozen 6
          have y7 : w25.cell? ⟨bx, 7, none⟩ = some (.slice crq (argL rq).length qrq) := HP25.out.rx.cell 7
          have yf7 := HP25.out.rx.frozen 7
          have y8 : w25.cell? ⟨bx, 8, none⟩ = some (.slice ccn (argL cn).length qcn) := HP25.out.rx.cell 8
          have yf8 := HP25.out.rx.frozen 8
          have y9 : w25.cell? ⟨bx, 9, none⟩ = some (.slice cob ob.length qob) := HP25.out.rx.cell 9
          have yf9 := HP25.out.rx.frozen 9
          have y10 : w25.cell? ⟨bx, 10, none⟩ = some (.slice d0 (argL l0).length f0) := HP25.out.rx.cell 10
          have yf10 := HP25.out.rx.frozen 10
          have y11 : w25.cell? ⟨bx, 11, none⟩ = some (.slice d1 (argL l1).length f1) := HP25.out.rx.cell 11
          have yf11 := HP25.out.rx.frozen 11
          have y12 : w25.cell? ⟨bx, 12, none⟩ = some (.slice d2 (argL l2).length f2) := HP25.out.rx.cell 12
          have yf12 := HP25.out.rx.frozen 12
          have y13 : w25.cell? ⟨bx, 13, none⟩ = some (.slice d3 (argL l3).length f3) := HP25.out.rx.cell 13
          have yf13 := HP25.out.rx.frozen 13
          have y14 : w25.cell? ⟨bx, 14, none⟩ = some (.slice cf fl.length qf) := HP25.out.rx.cell 14
          have yf14 := HP25.out.rx.frozen 14
          have yl : bx < w25.heap.size := HP25.out.rx.lt
          have z0 : w25.cell? ⟨b, 0, none⟩ = some (.string ⟨#[]⟩) := HP25.out.rz.cell 0
          have zf0 := HP25.out.rz.frozen 0
          have z1 : w25.cell? ⟨b, 1, none⟩ = some (.int .i64 0) := HP25.out.rz.cell 1
          have zf1 := HP25.out.rz.frozen 1
          have z2 : w25.cell? ⟨b, 2, none⟩ = some (.string ⟨#[]⟩) := HP25.out.rz.cell 2
          have zf2 := HP25.out.rz.frozen 2
          have z3 : w25.cell? ⟨b, 3, none⟩ = some (.string ⟨#[]⟩) := HP25.out.rz.cell 3
          have zf3 := HP25.out.rz.frozen 3
          have z4 : w25.cell? ⟨b, 4, none⟩ = some (.int .u8 0) := HP25.out.rz.cell 4
          have zf4 := HP25.out.rz.frozen 4
          have z5 : w25.cell? ⟨b, 5, none⟩ = some (.string ⟨#[]⟩) := HP25.out.rz.cell 5
          have zf5 := HP25.out.rz.frozen 5
          have z6 : w25.cell? ⟨b, 6, none⟩ = some (.slice none 0 0) := HP25.out.rz.cell 6
          have zf6 := HP25.out.rz.frozen 6
          have z7 : w25.cell? ⟨b, 7, none⟩ = some (.slice none 0 0) := HP25.out.rz.cell 7
          have zf7 := HP25.out.rz.frozen 7
          have z8 : w25.cell? ⟨b, 8, none⟩ = some (.slice none 0 0) := HP25.out.rz.cell 8
          have zf8 := HP25.out.rz.frozen 8
          have z9 : w25.cell? ⟨b, 9, none⟩ = some (.slice none 0 0) := HP25.out.rz.cell 9
          have zf9 := HP25.out.rz.frozen 9
          have z10 : w25.cell? ⟨b, 10, none⟩ = some (.slice none 0 0) := HP25.out.rz.cell 10
          have zf10 := HP25.out.rz.frozen 10
          have z11 : w25.cell? ⟨b, 11, none⟩ = some (.slice none 0 0) := HP25.out.rz.cell 11
          have zf11 := HP25.out.rz.frozen 11
          have z12 : w25.cell? ⟨b, 12, none⟩ = some (.slice none 0 0) := HP25.out.rz.cell 12
          have zf12 := HP25.out.rz.frozen 12
          have z13 : w25.cell? ⟨b, 13, none⟩ = some (.slice none 0 0) := HP25.out.rz.cell 13
          have zf13 := HP25.out.rz.frozen 13
          have z14 : w25.cell? ⟨b, 14, none⟩ = some (.slice none 0 0) := HP25.out.rz.cell 14
          have zf14 := HP25.out.rz.frozen 14
          have zl : b < w25.heap.size := HP25.out.rz.lt
          go_wp2_with fail
          obtain ⟨q1, q2, q3, q4⟩ := PkSt.done HP25.out
          exact bodyPost_ret (results_cell_row rfl _ _ b 29 _ (0, 0) _ rfl q1 Tryz.underlying29 rfl (by kernel_rfl)) rfl ⟨⟨nm, ep, ver, rel, (ar : Int), vd, pv, rq, cn, ob, l0, l1, l2, l3, fl⟩, _, at_, 4, rfl, ⟨⟨(.slice cpv pv.length qpv), (.slice crq (argL rq).length qrq), (.slice ccn (argL cn).length qcn), (.slice cob ob.length qob), (.slice d0 (argL l0).length f0), (.slice d1 (argL l1).length f1), (.slice d2 (argL l2).length f2), (.slice d3 (argL l3).length f3), (.slice cf fl.length qf)⟩, rfl, q2⟩, q3, res_at (he ▸ HR21.out) (by rw [if_neg hm]; exact .inr ⟨rfl, .inr ⟨rfl, by decide⟩⟩), q4⟩
      · have HF1 := Lib.hid (show Calls Tryz.prog 84 #[.pointer (some ⟨g, 0, none⟩)] w22 (fun r w' => r = .returned (.bool false) ∧ ∃ n, w' = w22.drewN n) from HF.out.mono fun r w' ⟨h1, h2⟩ => ⟨by rw [h1, decide_eq_false he], h2⟩)
        clear HF
        go_upto_region 18 with (first
          | (go_at_call 84; (with_reducible refine HF1.out.mono ?_); rintro rr w23 ⟨rfl, n4, hw23⟩; have HP23 := Lib.hid (show PkSt w b bx (bx + 1) ⟨nm, ep, ver, rel, (ar : Int), vd, pv, rq, cn, ob, l0, l1, l2, l3, fl⟩ ⟨(.slice cpv pv.length qpv), (.slice crq (argL rq).length qrq), (.slice ccn (argL cn).length qcn), (.slice cob ob.length qob), (.slice d0 (argL l0).length f0), (.slice d1 (argL l1).length f1), (.slice d2 (argL l2).length f2), (.slice d3 (argL l3).length f3), (.slice cf fl.length qf)⟩ g gr s left a21 e21 w23 from hw23 ▸ HP22.out.drewN n4); clear hw23; have y0 : w23.cell? ⟨bx, 0, none⟩ = some (.string nm) := HP23.out.rx.cell 0; have yf0 := HP23.out.rx.frozen 0; have y1 : w23.cell? ⟨bx, 1, none⟩ = some (.int .i64 ep) := HP23.out.rx.cell 1; have yf1 := HP23.out.rx.frozen 1; have y2 : w23.cell? ⟨bx, 2, none⟩ = some (.string ver) := HP23.out.rx.cell 2; have yf2 := HP23.out.rx.frozen 2; have y3 : w23.cell? ⟨bx, 3, none⟩ = some (.string rel) := HP23.out.rx.cell 3; have yf3 := HP23.out.rx.frozen 3; have y4 : w23.cell? ⟨bx, 4, none⟩ = some (.int .u8 (ar : Int)) := HP23.out.rx.cell 4; have yf4 := HP23.out.rx.frozen 4; have y5 : w23.cell? ⟨bx, 5, none⟩ = some (.string vd) := HP23.out.rx.cell 5; have yf5 := HP23.out.rx.frozen 5; have y6 : w23.cell? ⟨bx, 6, none⟩ = some (.slice cpv pv.length qpv) := HP23.out.rx.cell 6; have yf6 := HP23.out.rx.frozen 6; have y7 : w23.cell? ⟨bx, 7, none⟩ = some (.slice crq (argL rq).length qrq) := HP23.out.rx.cell 7; have yf7 := HP23.out.rx.frozen 7; have y8 : w23.cell? ⟨bx, 8, none⟩ = some (.slice ccn (argL cn).length qcn) := HP23.out.rx.cell 8; have yf8 := HP23.out.rx.frozen 8; have y9 : w23.cell? ⟨bx, 9, none⟩ = some (.slice cob ob.length qob) := HP23.out.rx.cell 9; have yf9 := HP23.out.rx.frozen 9; have y10 : w23.cell? ⟨bx, 10, none⟩ = some (.slice d0 (argL l0).length f0) := HP23.out.rx.cell 10; have yf10 := HP23.out.rx.frozen 10; have y11 : w23.cell? ⟨bx, 11, none⟩ = some (.slice d1 (argL l1).length f1) := HP23.out.rx.cell 11; have yf11 := HP23.out.rx.frozen 11; have y12 : w23.cell? ⟨bx, 12, none⟩ = some (.slice d2 (argL l2).length f2) := HP23.out.rx.cell 12; have yf12 := HP23.out.rx.frozen 12; have y13 : w23.cell? ⟨bx, 13, none⟩ = some (.slice d3 (argL l3).length f3) := HP23.out.rx.cell 13; have yf13 := HP23.out.rx.frozen 13; have y14 : w23.cell? ⟨bx, 14, none⟩ = some (.slice cf fl.length qf) := HP23.out.rx.cell 14; have yf14 := HP23.out.rx.frozen 14; have yl : bx < w23.heap.size := HP23.out.rx.lt)
          | fail)
        have z0 : w23.cell? ⟨b, 0, none⟩ = some (.string ⟨#[]⟩) := HP23.out.rz.cell 0
        have zf0 := HP23.out.rz.frozen 0
        have z1 : w23.cell? ⟨b, 1, none⟩ = some (.int .i64 0) := HP23.out.rz.cell 1
        have zf1 := HP23.out.rz.frozen 1
        have z2 : w23.cell? ⟨b, 2, none⟩ = some (.string ⟨#[]⟩) := HP23.out.rz.cell 2
        have zf2 := HP23.out.rz.frozen 2
        have z3 : w23.cell? ⟨b, 3, none⟩ = some (.string ⟨#[]⟩) := HP23.out.rz.cell 3
        have zf3 := HP23.out.rz.frozen 3
        have z4 : w23.cell? ⟨b, 4, none⟩ = some (.int .u8 0) := HP23.out.rz.cell 4
        have zf4 := HP23.out.rz.frozen 4
        have z5 : w23.cell? ⟨b, 5, none⟩ = some (.string ⟨#[]⟩) := HP23.out.rz.cell 5
        have zf5 := HP23.out.rz.frozen 5
        have z6 : w23.cell? ⟨b, 6, none⟩ = some (.slice none 0 0) := HP23.out.rz.cell 6
        have zf6 := HP23.out.rz.frozen 6
        have z7 : w23.cell? ⟨b, 7, none⟩ = some (.slice none 0 0) := HP23.out.rz.cell 7
        have zf7 := HP23.out.rz.frozen 7
        have z8 : w23.cell? ⟨b, 8, none⟩ = some (.slice none 0 0) := HP23.out.rz.cell 8
        have zf8 := HP23.out.rz.frozen 8
        have z9 : w23.cell? ⟨b, 9, none⟩ = some (.slice none 0 0) := HP23.out.rz.cell 9
        have zf9 := HP23.out.rz.frozen 9
        have z10 : w23.cell? ⟨b, 10, none⟩ = some (.slice none 0 0) := HP23.out.rz.cell 10
        have zf10 := HP23.out.rz.frozen 10
        have z11 : w23.cell? ⟨b, 11, none⟩ = some (.slice none 0 0) := HP23.out.rz.cell 11
        have zf11 := HP23.out.rz.frozen 11
        have z12 : w23.cell? ⟨b, 12, none⟩ = some (.slice none 0 0) := HP23.out.rz.cell 12
        have zf12 := HP23.out.rz.frozen 12
        have z13 : w23.cell? ⟨b, 13, none⟩ = some (.slice none 0 0) := HP23.out.rz.cell 13
        have zf13 := HP23.out.rz.frozen 13
        have z14 : w23.cell? ⟨b, 14, none⟩ = some (.slice none 0 0) := HP23.out.rz.cell 14
        have zf14 := HP23.out.rz.frozen 14
        have zl : b < w23.heap.size := HP23.out.rz.lt
        go_wp2_with fail
        obtain ⟨q1, q2, q3, q4⟩ := PkSt.done HP23.out
        exact bodyPost_ret (results_cell_row rfl _ _ b 29 _ (0, 0) _ rfl q1 Tryz.underlying29 rfl (by kernel_rfl)) rfl ⟨⟨nm, ep, ver, rel, (ar : Int), vd, pv, rq, cn, ob, l0, l1, l2, l3, fl⟩, _, a21, e21, rfl, ⟨⟨(.slice cpv pv.length qpv), (.slice crq (argL rq).length qrq), (.slice ccn (argL cn).length qcn), (.slice cob ob.length qob), (.slice d0 (argL l0).length f0), (.slice d1 (argL l1).length f1), (.slice d2 (argL l2).length f2), (.slice d3 (argL l3).length f3), (.slice cf fl.length qf)⟩, rfl, q2⟩, q3, res_at HR21.out (.inl ⟨he, rfl, rfl⟩), q4⟩
end Go.Proofs.YtdpjjnbelgaagaaGreatDoor
