/- CodecNames' walk: a package is built field by field. Conditions: as each theorem names them. -/
import Derived.Test.YtdpjjnbelgaagaaGreatDoorG21
import Derived.Deep.CutRange
import Derived.Deep.RegionHeld3
namespace Go.Proofs.YtdpjjnbelgaagaaGreatDoor
open Go.ChangeShapes Go.WideShapes Go.ChangeAt Go.RowKit Go.Deep
set_option maxRecDepth 100000

theorem one_any (s : ByteArray) (hs : s.size ≤ 100) (w : World) : Calls Tryz.prog 12 #[.string s] w fun e w' => e = .returned (.string (({ data := #[1, 1, 1] } ++ s) ++ { data := #[0] })) ∧ w = w' := by
  go_enter Tryz.func12, Tryz.ntmps12
  go_wp2_with fail
  go_ret
  exact ⟨rfl, rfl⟩
/-- A package is under way in block bp. -/
structure Ps (w : World) (bp : Nat) (p : PkgD) (r : PkgR) (W : World) : Prop where
  bl : Below w.heap.size w W
  lo : w.heap.size ≤ bp
  bx : Blk W bp 29 (pkA p r)
  inn : PkgIn (fun _ b => b ≠ bp) W p r
section
variable {w : World} {bp : Nat} {p p' : PkgD} {r r' : PkgR} {W W' : World}
theorem Ps.below (h : Ps w bp p r W) (hb : Below W.heap.size W W') : Ps w bp p r W' :=
  ⟨below_t' h.bl hb, h.lo, h.bx.below hb h.bx.lt, h.inn.keep hb.size fun b hB hlt => ⟨hb.block b hlt, hB⟩⟩
theorem Ps.put (h : Ps w bp p r W) (i : Nat) (v : Value) (he : pkA p' r' = (pkA p r).setIfInBounds i v) (hin : PkgIn (fun _ b => b ≠ bp) W p' r') : Ps w bp p' r' (W.setCell ⟨bp, i, none⟩ v) :=
  ⟨h.bl.setCell h.lo v, h.lo, he ▸ h.bx.set_ i v, hin.keep (by simp) fun b hB _ => ⟨Below.heap_setCell _ _ _ _ hB, hB⟩⟩
theorem Ps.go (h : Ps w bp p r W) (i : Nat) (v : Value) (he : pkA p' r' = (pkA p r).setIfInBounds i v) (hb : Below W.heap.size (W.setCell ⟨bp, i, none⟩ v) W') (hin : bp < W.heap.size → PkgIn (fun _ b => b ≠ bp) W' p r → PkgIn (fun _ b => b ≠ bp) W' p' r') : Ps w bp p' r' W' := by
  have hl := h.bx.lt
  have hs : (W.setCell ⟨bp, i, none⟩ v).heap.size = W.heap.size := by simp
  refine ⟨(h.bl.setCell h.lo v).trans (hb.mono h.bl.size), h.lo, he ▸ (h.bx.set_ i v).below hb hl, hin hl (h.inn.keep (by have := hb.size; omega) fun b hB hlt => ⟨(hb.block b hlt).trans (Below.heap_setCell _ _ _ _ hB), hB⟩)⟩
theorem two_alloc (W : World) (bp i : Nat) (v : Value) (A : Obj) : Below W.heap.size (W.setCell ⟨bp, i, none⟩ v) ((W.setCell ⟨bp, i, none⟩ v).alloc A) := (Below.refl _ _).alloc (by simp) A
end
abbrev strA : ByteArray := { data := #[] }
def dB : DepD := ⟨{ data := #[98] }, 0, 0, strA, strA⟩
def dC : DepD := ⟨{ data := #[99] }, 2, 0, { data := #[51] }, strA⟩
def dI : DepD := ⟨{ data := #[105] }, 1, 1, { data := #[52] }, { data := #[53] }⟩
def atR (s : ByteArray) : RichD := .node 1 ⟨s, 0, 0, strA, strA⟩ 0 fun _ => .nil
abbrev atV (s : ByteArray) : List Value := [.int .u8 1, .string s, .int .u8 0, .int .i64 0, .string strA, .string strA, .slice none 0 0]
def pk (pv : List DepD) (rq cn : RichD) (ob : List DepD) (l0 l1 l2 l3 : RichD) (fl : List ByteArray) : PkgD := ⟨{ data := #[97] }, 300, { data := #[49] }, { data := #[50] }, 2, { data := #[118] }, pv, rq, cn, ob, l0, l1, l2, l3, fl⟩
theorem atom_in (B : World → Nat → Prop) (w : World) (s : ByteArray) (hs : s.size ≤ 9223372036854775807) : ArgsP B w (atR s) (.slice none 0 0) := by
  have h : LIn richK B w (argL (atR s)) (.slice none 0 0) := LIn.nil _ _ _
  exact h.args ⟨⟨hs, Nat.zero_le _, Nat.zero_le _⟩, by show (0 : Int) ≤ 1; decide, by show (1 : Int) < 256; decide⟩
theorem atoms_in {B : World → Nat → Prop} {w : World} {g : Nat} {t : TypeId} {s : ByteArray} (hs : s.size ≤ 9223372036854775807) (hb : Blk w g t (atV s).toArray) (hB : B w g) : LIn richK B w (argL (ofL 0 [atR s])) (.slice (some ⟨g, 0, none⟩) 1 1) := by
  rw [argL_ofL]
  exact LIn.blk (K := richK) [(atR s, .slice none 0 0)] rfl rfl (by decide) rfl hb (fun p hp => by simp only [List.mem_singleton] at hp; subst hp; exact atom_in B w s hs) hB
theorem two_alloc2 (W : World) (bp i : Nat) (v : Value) (A B : Obj) : Below W.heap.size (W.setCell ⟨bp, i, none⟩ v) (((W.setCell ⟨bp, i, none⟩ v).alloc A).alloc B) := ((Below.refl _ _).alloc (by simp) A).alloc (by simp) B
def reqR : RichD := ofL 0 [atR { data := #[100] }, ofL 4 [atR { data := #[101] }, atR { data := #[102] }, atR { data := #[103] }]]
theorem req_in {bp : Nat} (wd : World) (a : Addr) (v : Value) (hl : bp < wd.heap.size) :
    LIn richK (fun _ b => b ≠ bp) (((wd.setCell a v).alloc (.cells #[.int .u8 1, .string { data := #[101] }, .int .u8 0, .int .i64 0, .string strA, .string strA, .slice none 0 0, .int .u8 1, .string { data := #[102] }, .int .u8 0, .int .i64 0, .string strA, .string strA, .slice none 0 0, .int .u8 1, .string { data := #[103] }, .int .u8 0, .int .i64 0, .string strA, .string strA, .slice none 0 0] 34)).alloc
      (.cells #[.int .u8 1, .string { data := #[100] }, .int .u8 0, .int .i64 0, .string strA, .string strA, .slice none 0 0, .int .u8 4, .string strA, .int .u8 0, .int .i64 0, .string strA, .string strA, .slice (some ⟨wd.heap.size, 0, none⟩) 3 3] 34)) (argL reqR) (.slice (some ⟨wd.heap.size + 1, 0, none⟩) 2 2) := by
  obtain ⟨x, hx⟩ : ∃ x, x = wd.setCell a v := ⟨_, rfl⟩
  rw [← hx]
  have hs : x.heap.size = wd.heap.size := by rw [hx, World.size_setCell]
  rw [← hs] at hl ⊢
  have hb1 := Blk.new x 34 #[.int .u8 1, .string { data := #[101] }, .int .u8 0, .int .i64 0, .string strA, .string strA, .slice none 0 0, .int .u8 1, .string { data := #[102] }, .int .u8 0, .int .i64 0, .string strA, .string strA, .slice none 0 0, .int .u8 1, .string { data := #[103] }, .int .u8 0, .int .i64 0, .string strA, .string strA, .slice none 0 0]
  obtain ⟨y, hy⟩ : ∃ y, y = x.alloc (.cells #[.int .u8 1, .string { data := #[101] }, .int .u8 0, .int .i64 0, .string strA, .string strA, .slice none 0 0, .int .u8 1, .string { data := #[102] }, .int .u8 0, .int .i64 0, .string strA, .string strA, .slice none 0 0, .int .u8 1, .string { data := #[103] }, .int .u8 0, .int .i64 0, .string strA, .string strA, .slice none 0 0] 34) := ⟨_, rfl⟩
  have hys : y.heap.size = x.heap.size + 1 := by rw [hy, World.size_alloc]
  rw [← hy] at hb1 ⊢
  have hb2 := Blk.new y 34 #[.int .u8 1, .string { data := #[100] }, .int .u8 0, .int .i64 0, .string strA, .string strA, .slice none 0 0, .int .u8 4, .string strA, .int .u8 0, .int .i64 0, .string strA, .string strA, .slice (some ⟨x.heap.size, 0, none⟩) 3 3]
  rw [hys] at hb2
  have hb3 := hb1.alloc (.cells #[.int .u8 1, .string { data := #[100] }, .int .u8 0, .int .i64 0, .string strA, .string strA, .slice none 0 0, .int .u8 4, .string strA, .int .u8 0, .int .i64 0, .string strA, .string strA, .slice (some ⟨x.heap.size, 0, none⟩) 3 3] 34)
  unfold reqR
  rw [argL_ofL]
  refine LIn.blk (K := richK) [(atR { data := #[100] }, .slice none 0 0), (ofL 4 [atR { data := #[101] }, atR { data := #[102] }, atR { data := #[103] }], .slice (some ⟨x.heap.size, 0, none⟩) 3 3)] rfl rfl (by decide) rfl hb2 (fun p hp => ?_) (by omega)
  simp only [List.mem_cons, List.not_mem_nil, or_false] at hp
  rcases hp with rfl | rfl
  · exact atom_in _ _ _ (by show (1 : Nat) ≤ _; omega)
  · have h : LIn richK (fun _ b => b ≠ bp) (y.alloc (.cells #[.int .u8 1, .string { data := #[100] }, .int .u8 0, .int .i64 0, .string strA, .string strA, .slice none 0 0, .int .u8 4, .string strA, .int .u8 0, .int .i64 0, .string strA, .string strA, .slice (some ⟨x.heap.size, 0, none⟩) 3 3] 34)) (argL (ofL 4 [atR { data := #[101] }, atR { data := #[102] }, atR { data := #[103] }])) (.slice (some ⟨x.heap.size, 0, none⟩) 3 3) := by
      rw [argL_ofL]
      refine LIn.blk (K := richK) [(atR { data := #[101] }, .slice none 0 0), (atR { data := #[102] }, .slice none 0 0), (atR { data := #[103] }, .slice none 0 0)] rfl rfl (by decide) rfl hb3 (fun p hp => ?_) (by omega)
      simp only [List.mem_cons, List.not_mem_nil, or_false] at hp
      rcases hp with rfl | rfl | rfl
      · exact atom_in _ _ _ (by show (1 : Nat) ≤ _; omega)
      · exact atom_in _ _ _ (by show (1 : Nat) ≤ _; omega)
      · exact atom_in _ _ _ (by show (1 : Nat) ≤ _; omega)
    exact h.args ⟨noDep_fit, by show (0 : Int) ≤ 4; decide, by show (4 : Int) < 256; decide⟩
theorem nil_in (B : World → Nat → Prop) (w : World) : LIn richK B w (argL nilR) nilV := by
  rw [show argL nilR = [] from argL_ofL 0 []]
  exact LIn.nil _ _ _
def namesP : PkgD := pk [dB, dC] reqR (ofL 0 [atR { data := #[104] }]) [dI] (ofL 0 [atR { data := #[106] }]) (ofL 0 [atR { data := #[107] }]) (ofL 0 [atR { data := #[108] }]) (ofL 0 [atR { data := #[109] }]) [{ data := #[47, 110] }, { data := #[47, 111] }]
def namesD : DataD := ⟨[⟨200, [namesP]⟩, ⟨0, []⟩], [bareP nZ]⟩
/-- The data lie in memory, in block gd. -/
def NamesSt (w : World) (gd : Nat) (W : World) : Prop := ∃ go gz, Blk W gd 41 #[.slice (some ⟨go, 0, none⟩) 2 2, .slice (some ⟨gz, 0, none⟩) 1 1] ∧ DataIn anyB W namesD (.slice (some ⟨go, 0, none⟩) 2 2) (.slice (some ⟨gz, 0, none⟩) 1 1) ∧ Below w.heap.size w W
theorem names_st {w n0 W : World} {bp : Nat} {r : PkgR} (h : Ps w bp namesP r n0) (hb : Below n0.heap.size n0 W) {gd go gp gz : Nat} (h1 : Blk W gd 41 #[.slice (some ⟨go, 0, none⟩) 2 2, .slice (some ⟨gz, 0, none⟩) 1 1]) (h2 : Blk W go 38 (oC gp)) (h3 : Blk W gp 29 (pC namesP r)) (h4 : Blk W gz 29 (zC nZ)) : NamesSt w gd W := by
  have hin : PkgIn anyB W namesP r := h.inn.keep hb.size fun b _ hlt => ⟨hb.block b hlt, trivial⟩
  refine ⟨go, gz, h1, ⟨LIn.blk (K := repoK) [(⟨200, [namesP]⟩, .slice (some ⟨gp, 0, none⟩) 1 1), (⟨0, []⟩, .slice none 0 0)] rfl rfl (by decide) rfl h2 (fun q hq => ?_) trivial, LIn.one1 (K := pkgK) (r := nilPR) (x := bareP nZ) (t := 29) h4 (bare_in _ _ (by show (1 : Nat) ≤ _; omega) _)⟩, below_t' h.bl hb⟩
  simp only [List.mem_cons, List.not_mem_nil, or_false] at hq
  rcases hq with rfl | rfl
  · exact ⟨by show -9223372036854775808 ≤ (200 : Int) ∧ (200 : Int) ≤ 9223372036854775807; omega, LIn.one1 (K := pkgK) (r := r) (x := namesP) (t := 29) h3 hin⟩
  · exact ⟨by show -9223372036854775808 ≤ (0 : Int) ∧ (0 : Int) ≤ 9223372036854775807; omega, LIn.nil _ _ _⟩
theorem NamesSt.bel {w W W' : World} {gd : Nat} (h : NamesSt w gd W) (hb : Below W.heap.size W W') : NamesSt w gd W' := by
  obtain ⟨go, gz, h1, h2, h3⟩ := h
  exact ⟨go, gz, h1.bel' hb, h2.bl hb, below_t' h3 hb⟩
theorem names_may : checkE namesD = 0 := by decide +kernel
theorem names_wt : wtA namesD ≤ 1000 := by decide +kernel
set_option maxHeartbeats 8000000 in
theorem names_walk (w : World) (hW : Words w) (hO : Ops w) : Calls Tryz.prog 3 #[] w fun e w' => e = .returned (.bool true) ∧ Below w.heap.size w w' := by
  have HTab := Lib.hid (show ∀ w', Below w.heap.size w w' → Words w' ∧ Ops w' from fun w' h => ⟨hW.below h, hO.below h⟩)
  have HWk := Lib.hid (works11_any w hW hO)
  have HBa := Lib.hid (fun (w' : World) => bare_any { data := #[97] } w')
  have HAt := Lib.hid (fun (s : ByteArray) (w' : World) => atom11_any s w')
  clear hW hO
  go_enter Tryz.func3, Tryz.ntmps3
  go_upto_region 7 with (first
    | (go_at_call 8; (with_reducible refine HWk.out.mono ?_); rintro r w1 ⟨rfl, hb1⟩; have HB1 := Lib.hid hb1; clear hb1)
    | (go_at_call 9; (with_reducible refine (HBa.out w1).mono ?_); rintro r w2 ⟨rfl, hb2⟩; have HB2 := Lib.hid (below_t' HB1.out hb2); clear hb2)
    | fail)
  obtain ⟨bp, hbp⟩ : ∃ bp, bp = w2.heap.size := ⟨_, rfl⟩
  rw [← hbp]
  obtain ⟨W, hWe⟩ : ∃ W, W = (w2.alloc (.cells #[.string { data := #[97] }, .int .i64 300, .string { data := #[49] }, .string { data := #[50] }, .int .u8 2, .string { data := #[118] }, .slice (some ⟨bp + 1, 0, none⟩) 2 2, .slice none 0 0, .slice none 0 0, .slice none 0 0, .slice none 0 0, .slice none 0 0, .slice none 0 0, .slice none 0 0, .slice none 0 0] 29)).alloc (.cells #[.string { data := #[98] }, .int .u8 0, .int .i64 0, .string strA, .string strA, .string { data := #[99] }, .int .u8 2, .int .i64 0, .string { data := #[51] }, .string strA] 32) := ⟨_, rfl⟩
  rw [← hWe]
  have HP := Lib.hid (show Ps w bp (pk [dB, dC] nilR nilR [] nilR nilR nilR nilR []) ⟨.slice (some ⟨bp + 1, 0, none⟩) 2 2, nilV, nilV, nilV, nilV, nilV, nilV, nilV, nilV⟩ W from by
    rw [hWe, hbp]
    refine ⟨below_t' HB2.out (below_t' (new_b _ _) (new_b _ _)), HB2.out.size, (Blk.new w2 29 _).alloc _, by show (1 : Nat) ≤ _; omega, by show (1 : Nat) ≤ _; omega, by show (1 : Nat) ≤ _; omega, by show (1 : Nat) ≤ _; omega, by show (0 : Int) ≤ 2 ∧ (2 : Int) < 256; omega, by show -9223372036854775808 ≤ (300 : Int) ∧ (300 : Int) ≤ 9223372036854775807; omega, ?_, nil_in _ _, nil_in _ _, LIn.nil _ _ _, nil_in _ _, nil_in _ _, nil_in _ _, nil_in _ _, LIn.nil _ _ _⟩
    have hb := Blk.new (w2.alloc (.cells #[.string { data := #[97] }, .int .i64 300, .string { data := #[49] }, .string { data := #[50] }, .int .u8 2, .string { data := #[118] }, .slice (some ⟨w2.heap.size + 1, 0, none⟩) 2 2, .slice none 0 0, .slice none 0 0, .slice none 0 0, .slice none 0 0, .slice none 0 0, .slice none 0 0, .slice none 0 0, .slice none 0 0] 29)) 32 #[.string { data := #[98] }, .int .u8 0, .int .i64 0, .string strA, .string strA, .string { data := #[99] }, .int .u8 2, .int .i64 0, .string { data := #[51] }, .string strA]
    rw [World.size_alloc] at hb
    refine LIn.blk (K := depK) [(dB, ()), (dC, ())] rfl rfl (by decide) rfl hb (fun p hp => ?_) (by omega)
    simp only [List.mem_cons, List.not_mem_nil, or_false] at hp
    rcases hp with rfl | rfl
    · exact ⟨⟨by show (1 : Nat) ≤ _; omega, Nat.zero_le _, Nat.zero_le _⟩, by show (0 : Int) ≤ 0; decide, by show (0 : Int) < 256; decide⟩
    · exact ⟨⟨by show (1 : Nat) ≤ _; omega, by show (1 : Nat) ≤ _; omega, Nat.zero_le _⟩, by show (0 : Int) ≤ 2; decide, by show (2 : Int) < 256; decide⟩)
  have HG := Lib.hid hbp
  clear hbp hWe
  go_upto_region 8 with (first
    | (go_at_call 10; (with_reducible refine (HAt.out _ W).mono ?_); rintro r wa ⟨rfl, hb⟩; have HPa := Lib.hid (HP.out.below hb); clear hb)
    | (go_at_call 10; (with_reducible refine (HAt.out _ wa).mono ?_); rintro r wb ⟨rfl, hb⟩; have HPb := Lib.hid (HPa.out.below hb); clear hb)
    | (go_at_call 10; (with_reducible refine (HAt.out _ wb).mono ?_); rintro r wc ⟨rfl, hb⟩; have HPc := Lib.hid (HPb.out.below hb); clear hb)
    | (go_at_call 10; (with_reducible refine (HAt.out _ wc).mono ?_); rintro r wd ⟨rfl, hb⟩; have HPd := Lib.hid (HPc.out.below hb); have hz := HPd.out.bx.cell 7; have hf := HPd.out.bx.frozen 7; have hl := HPd.out.bx.lt; clear hb)
    | fail)
  clear hz hf hl
  obtain ⟨W7, hW7⟩ : ∃ W7, W7 = ((wd.setCell ⟨bp, 7, none⟩ (.slice (some ⟨wd.heap.size + 1, 0, none⟩) 2 2)).alloc (.cells #[.int .u8 1, .string { data := #[101] }, .int .u8 0, .int .i64 0, .string strA, .string strA, .slice none 0 0, .int .u8 1, .string { data := #[102] }, .int .u8 0, .int .i64 0, .string strA, .string strA, .slice none 0 0, .int .u8 1, .string { data := #[103] }, .int .u8 0, .int .i64 0, .string strA, .string strA, .slice none 0 0] 34)).alloc (.cells #[.int .u8 1, .string { data := #[100] }, .int .u8 0, .int .i64 0, .string strA, .string strA, .slice none 0 0, .int .u8 4, .string strA, .int .u8 0, .int .i64 0, .string strA, .string strA, .slice (some ⟨wd.heap.size, 0, none⟩) 3 3] 34) := ⟨_, rfl⟩
  rw [← hW7]
  have HP7 := Lib.hid (show Ps w bp (pk [dB, dC] reqR nilR [] nilR nilR nilR nilR []) ⟨.slice (some ⟨bp + 1, 0, none⟩) 2 2, .slice (some ⟨wd.heap.size + 1, 0, none⟩) 2 2, nilV, nilV, nilV, nilV, nilV, nilV, nilV⟩ W7 from by
    rw [hW7]
    refine HPd.out.go 7 (.slice (some ⟨wd.heap.size + 1, 0, none⟩) 2 2) rfl (two_alloc2 _ _ _ _ _ _) fun hl k => ?_
    have hr := req_in (bp := bp) wd ⟨bp, 7, none⟩ (.slice (some ⟨wd.heap.size + 1, 0, none⟩) 2 2) (by omega)
    exact ⟨k.s1, k.s2, k.s3, k.s4, k.ar, k.ep, k.prov, hr, k.con, k.obs, k.reco, k.sup, k.sug, k.enh, k.files⟩)
  clear hW7
  go_upto_region 9 with (first
    | (go_at_call 10; (with_reducible refine (HAt.out _ W7).mono ?_); rintro r x8 ⟨rfl, hb⟩; have HPx8 := Lib.hid (HP7.out.below hb); have hz := HPx8.out.bx.cell 8; have hf := HPx8.out.bx.frozen 8; have hl := HPx8.out.bx.lt; clear hb)
    | fail)
  clear hz hf hl
  obtain ⟨W8, hW8⟩ : ∃ W8, W8 = (x8.setCell ⟨bp, 8, none⟩ (.slice (some ⟨x8.heap.size, 0, none⟩) 1 1)).alloc (.cells #[.int .u8 1, .string { data := #[104] }, .int .u8 0, .int .i64 0, .string strA, .string strA, .slice none 0 0] 34) := ⟨_, rfl⟩
  rw [← hW8]
  have HP8 := Lib.hid (show Ps w bp (pk [dB, dC] reqR (ofL 0 [atR { data := #[104] }]) [] nilR nilR nilR nilR []) ⟨.slice (some ⟨bp + 1, 0, none⟩) 2 2, .slice (some ⟨wd.heap.size + 1, 0, none⟩) 2 2, .slice (some ⟨x8.heap.size, 0, none⟩) 1 1, nilV, nilV, nilV, nilV, nilV, nilV⟩ W8 from by
    rw [hW8]
    refine HPx8.out.go 8 (.slice (some ⟨x8.heap.size, 0, none⟩) 1 1) rfl (two_alloc _ _ _ _ _) fun hl k => ?_
    have hb := Blk.new (x8.setCell ⟨bp, 8, none⟩ (.slice (some ⟨x8.heap.size, 0, none⟩) 1 1)) 34 #[.int .u8 1, .string { data := #[104] }, .int .u8 0, .int .i64 0, .string strA, .string strA, .slice none 0 0]
    rw [World.size_setCell] at hb
    have hr := atoms_in (B := fun _ b => b ≠ bp) (s := { data := #[104] }) (by show (1 : Nat) ≤ _; omega) hb (by omega)
    exact ⟨k.s1, k.s2, k.s3, k.s4, k.ar, k.ep, k.prov, k.req, hr, k.obs, k.reco, k.sup, k.sug, k.enh, k.files⟩)
  clear hW8
  have hz := HP8.out.bx.cell 9
  have hf := HP8.out.bx.frozen 9
  have hl := HP8.out.bx.lt
  go_upto_region 10 with fail
  clear hz hf hl
  obtain ⟨W9, hW9⟩ : ∃ W9, W9 = (W8.setCell ⟨bp, 9, none⟩ (.slice (some ⟨W8.heap.size, 0, none⟩) 1 1)).alloc (.cells #[.string { data := #[105] }, .int .u8 1, .int .i64 1, .string { data := #[52] }, .string { data := #[53] }] 32) := ⟨_, rfl⟩
  rw [← hW9]
  have HP9 := Lib.hid (show Ps w bp (pk [dB, dC] reqR (ofL 0 [atR { data := #[104] }]) [dI] nilR nilR nilR nilR []) ⟨.slice (some ⟨bp + 1, 0, none⟩) 2 2, .slice (some ⟨wd.heap.size + 1, 0, none⟩) 2 2, .slice (some ⟨x8.heap.size, 0, none⟩) 1 1, .slice (some ⟨W8.heap.size, 0, none⟩) 1 1, nilV, nilV, nilV, nilV, nilV⟩ W9 from by
    rw [hW9]
    refine HP8.out.go 9 (.slice (some ⟨W8.heap.size, 0, none⟩) 1 1) rfl (two_alloc _ _ _ _ _) fun hl k => ?_
    have hb := Blk.new (W8.setCell ⟨bp, 9, none⟩ (.slice (some ⟨W8.heap.size, 0, none⟩) 1 1)) 32 #[.string { data := #[105] }, .int .u8 1, .int .i64 1, .string { data := #[52] }, .string { data := #[53] }]
    rw [World.size_setCell] at hb
    have hr := LIn.blk (K := depK) (B := fun _ b => b ≠ bp) [(dI, ())] rfl rfl (by decide) rfl hb (fun p hp => by
      simp only [List.mem_singleton] at hp
      subst hp
      exact ⟨⟨by show (1 : Nat) ≤ _; omega, by show (1 : Nat) ≤ _; omega, by show (1 : Nat) ≤ _; omega⟩, by show (0 : Int) ≤ 1; decide, by show (1 : Int) < 256; decide⟩) (by omega)
    exact ⟨k.s1, k.s2, k.s3, k.s4, k.ar, k.ep, k.prov, k.req, k.con, hr, k.reco, k.sup, k.sug, k.enh, k.files⟩)
  clear hW9
  go_upto_region 11 with (first
    | (go_at_call 10; (with_reducible refine (HAt.out _ W9).mono ?_); rintro r x10 ⟨rfl, hb⟩; have HPx10 := Lib.hid (HP9.out.below hb); have hz := HPx10.out.bx.cell 10; have hf := HPx10.out.bx.frozen 10; have hl := HPx10.out.bx.lt; clear hb)
    | fail)
  clear hz hf hl
  obtain ⟨W10, hW10⟩ : ∃ W10, W10 = (x10.setCell ⟨bp, 10, none⟩ (.slice (some ⟨x10.heap.size, 0, none⟩) 1 1)).alloc (.cells #[.int .u8 1, .string { data := #[106] }, .int .u8 0, .int .i64 0, .string strA, .string strA, .slice none 0 0] 34) := ⟨_, rfl⟩
  rw [← hW10]
  have HP10 := Lib.hid (show Ps w bp (pk [dB, dC] reqR (ofL 0 [atR { data := #[104] }]) [dI] (ofL 0 [atR { data := #[106] }]) nilR nilR nilR []) ⟨.slice (some ⟨bp + 1, 0, none⟩) 2 2, .slice (some ⟨wd.heap.size + 1, 0, none⟩) 2 2, .slice (some ⟨x8.heap.size, 0, none⟩) 1 1, .slice (some ⟨W8.heap.size, 0, none⟩) 1 1, .slice (some ⟨x10.heap.size, 0, none⟩) 1 1, nilV, nilV, nilV, nilV⟩ W10 from by
    rw [hW10]
    refine HPx10.out.go 10 (.slice (some ⟨x10.heap.size, 0, none⟩) 1 1) rfl (two_alloc _ _ _ _ _) fun hl k => ?_
    have hb := Blk.new (x10.setCell ⟨bp, 10, none⟩ (.slice (some ⟨x10.heap.size, 0, none⟩) 1 1)) 34 #[.int .u8 1, .string { data := #[106] }, .int .u8 0, .int .i64 0, .string strA, .string strA, .slice none 0 0]
    rw [World.size_setCell] at hb
    have hr := atoms_in (B := fun _ b => b ≠ bp) (s := { data := #[106] }) (by show (1 : Nat) ≤ _; omega) hb (by omega)
    exact ⟨k.s1, k.s2, k.s3, k.s4, k.ar, k.ep, k.prov, k.req, k.con, k.obs, hr, k.sup, k.sug, k.enh, k.files⟩)
  clear hW10
  go_upto_region 12 with (first
    | (go_at_call 10; (with_reducible refine (HAt.out _ W10).mono ?_); rintro r x11 ⟨rfl, hb⟩; have HPx11 := Lib.hid (HP10.out.below hb); have hz := HPx11.out.bx.cell 11; have hf := HPx11.out.bx.frozen 11; have hl := HPx11.out.bx.lt; clear hb)
    | fail)
  clear hz hf hl
  obtain ⟨W11, hW11⟩ : ∃ W11, W11 = (x11.setCell ⟨bp, 11, none⟩ (.slice (some ⟨x11.heap.size, 0, none⟩) 1 1)).alloc (.cells #[.int .u8 1, .string { data := #[107] }, .int .u8 0, .int .i64 0, .string strA, .string strA, .slice none 0 0] 34) := ⟨_, rfl⟩
  rw [← hW11]
  have HP11 := Lib.hid (show Ps w bp (pk [dB, dC] reqR (ofL 0 [atR { data := #[104] }]) [dI] (ofL 0 [atR { data := #[106] }]) (ofL 0 [atR { data := #[107] }]) nilR nilR []) ⟨.slice (some ⟨bp + 1, 0, none⟩) 2 2, .slice (some ⟨wd.heap.size + 1, 0, none⟩) 2 2, .slice (some ⟨x8.heap.size, 0, none⟩) 1 1, .slice (some ⟨W8.heap.size, 0, none⟩) 1 1, .slice (some ⟨x10.heap.size, 0, none⟩) 1 1, .slice (some ⟨x11.heap.size, 0, none⟩) 1 1, nilV, nilV, nilV⟩ W11 from by
    rw [hW11]
    refine HPx11.out.go 11 (.slice (some ⟨x11.heap.size, 0, none⟩) 1 1) rfl (two_alloc _ _ _ _ _) fun hl k => ?_
    have hb := Blk.new (x11.setCell ⟨bp, 11, none⟩ (.slice (some ⟨x11.heap.size, 0, none⟩) 1 1)) 34 #[.int .u8 1, .string { data := #[107] }, .int .u8 0, .int .i64 0, .string strA, .string strA, .slice none 0 0]
    rw [World.size_setCell] at hb
    have hr := atoms_in (B := fun _ b => b ≠ bp) (s := { data := #[107] }) (by show (1 : Nat) ≤ _; omega) hb (by omega)
    exact ⟨k.s1, k.s2, k.s3, k.s4, k.ar, k.ep, k.prov, k.req, k.con, k.obs, k.reco, hr, k.sug, k.enh, k.files⟩)
  clear hW11
  go_upto_region 13 with (first
    | (go_at_call 10; (with_reducible refine (HAt.out _ W11).mono ?_); rintro r x12 ⟨rfl, hb⟩; have HPx12 := Lib.hid (HP11.out.below hb); have hz := HPx12.out.bx.cell 12; have hf := HPx12.out.bx.frozen 12; have hl := HPx12.out.bx.lt; clear hb)
    | fail)
  clear hz hf hl
  obtain ⟨W12, hW12⟩ : ∃ W12, W12 = (x12.setCell ⟨bp, 12, none⟩ (.slice (some ⟨x12.heap.size, 0, none⟩) 1 1)).alloc (.cells #[.int .u8 1, .string { data := #[108] }, .int .u8 0, .int .i64 0, .string strA, .string strA, .slice none 0 0] 34) := ⟨_, rfl⟩
  rw [← hW12]
  have HP12 := Lib.hid (show Ps w bp (pk [dB, dC] reqR (ofL 0 [atR { data := #[104] }]) [dI] (ofL 0 [atR { data := #[106] }]) (ofL 0 [atR { data := #[107] }]) (ofL 0 [atR { data := #[108] }]) nilR []) ⟨.slice (some ⟨bp + 1, 0, none⟩) 2 2, .slice (some ⟨wd.heap.size + 1, 0, none⟩) 2 2, .slice (some ⟨x8.heap.size, 0, none⟩) 1 1, .slice (some ⟨W8.heap.size, 0, none⟩) 1 1, .slice (some ⟨x10.heap.size, 0, none⟩) 1 1, .slice (some ⟨x11.heap.size, 0, none⟩) 1 1, .slice (some ⟨x12.heap.size, 0, none⟩) 1 1, nilV, nilV⟩ W12 from by
    rw [hW12]
    refine HPx12.out.go 12 (.slice (some ⟨x12.heap.size, 0, none⟩) 1 1) rfl (two_alloc _ _ _ _ _) fun hl k => ?_
    have hb := Blk.new (x12.setCell ⟨bp, 12, none⟩ (.slice (some ⟨x12.heap.size, 0, none⟩) 1 1)) 34 #[.int .u8 1, .string { data := #[108] }, .int .u8 0, .int .i64 0, .string strA, .string strA, .slice none 0 0]
    rw [World.size_setCell] at hb
    have hr := atoms_in (B := fun _ b => b ≠ bp) (s := { data := #[108] }) (by show (1 : Nat) ≤ _; omega) hb (by omega)
    exact ⟨k.s1, k.s2, k.s3, k.s4, k.ar, k.ep, k.prov, k.req, k.con, k.obs, k.reco, k.sup, hr, k.enh, k.files⟩)
  clear hW12
  go_upto_region 14 with (first
    | (go_at_call 10; (with_reducible refine (HAt.out _ W12).mono ?_); rintro r x13 ⟨rfl, hb⟩; have HPx13 := Lib.hid (HP12.out.below hb); have hz := HPx13.out.bx.cell 13; have hf := HPx13.out.bx.frozen 13; have hl := HPx13.out.bx.lt; clear hb)
    | fail)
  clear hz hf hl
  obtain ⟨W13, hW13⟩ : ∃ W13, W13 = (x13.setCell ⟨bp, 13, none⟩ (.slice (some ⟨x13.heap.size, 0, none⟩) 1 1)).alloc (.cells #[.int .u8 1, .string { data := #[109] }, .int .u8 0, .int .i64 0, .string strA, .string strA, .slice none 0 0] 34) := ⟨_, rfl⟩
  rw [← hW13]
  have HP13 := Lib.hid (show Ps w bp (pk [dB, dC] reqR (ofL 0 [atR { data := #[104] }]) [dI] (ofL 0 [atR { data := #[106] }]) (ofL 0 [atR { data := #[107] }]) (ofL 0 [atR { data := #[108] }]) (ofL 0 [atR { data := #[109] }]) []) ⟨.slice (some ⟨bp + 1, 0, none⟩) 2 2, .slice (some ⟨wd.heap.size + 1, 0, none⟩) 2 2, .slice (some ⟨x8.heap.size, 0, none⟩) 1 1, .slice (some ⟨W8.heap.size, 0, none⟩) 1 1, .slice (some ⟨x10.heap.size, 0, none⟩) 1 1, .slice (some ⟨x11.heap.size, 0, none⟩) 1 1, .slice (some ⟨x12.heap.size, 0, none⟩) 1 1, .slice (some ⟨x13.heap.size, 0, none⟩) 1 1, nilV⟩ W13 from by
    rw [hW13]
    refine HPx13.out.go 13 (.slice (some ⟨x13.heap.size, 0, none⟩) 1 1) rfl (two_alloc _ _ _ _ _) fun hl k => ?_
    have hb := Blk.new (x13.setCell ⟨bp, 13, none⟩ (.slice (some ⟨x13.heap.size, 0, none⟩) 1 1)) 34 #[.int .u8 1, .string { data := #[109] }, .int .u8 0, .int .i64 0, .string strA, .string strA, .slice none 0 0]
    rw [World.size_setCell] at hb
    have hr := atoms_in (B := fun _ b => b ≠ bp) (s := { data := #[109] }) (by show (1 : Nat) ≤ _; omega) hb (by omega)
    exact ⟨k.s1, k.s2, k.s3, k.s4, k.ar, k.ep, k.prov, k.req, k.con, k.obs, k.reco, k.sup, k.sug, hr, k.files⟩)
  clear hW13
  have hz := HP13.out.bx.cell 14
  have hf := HP13.out.bx.frozen 14
  have hl := HP13.out.bx.lt
  go_upto_region 15 with fail
  clear hz hf hl
  obtain ⟨W14, hW14⟩ : ∃ W14, W14 = (W13.setCell ⟨bp, 14, none⟩ (.slice (some ⟨W13.heap.size, 0, none⟩) 2 2)).alloc (.cells #[.string { data := #[47, 110] }, .string { data := #[47, 111] }] 9) := ⟨_, rfl⟩
  rw [← hW14]
  have HP14 := Lib.hid (show Ps w bp (pk [dB, dC] reqR (ofL 0 [atR { data := #[104] }]) [dI] (ofL 0 [atR { data := #[106] }]) (ofL 0 [atR { data := #[107] }]) (ofL 0 [atR { data := #[108] }]) (ofL 0 [atR { data := #[109] }]) [{ data := #[47, 110] }, { data := #[47, 111] }]) ⟨.slice (some ⟨bp + 1, 0, none⟩) 2 2, .slice (some ⟨wd.heap.size + 1, 0, none⟩) 2 2, .slice (some ⟨x8.heap.size, 0, none⟩) 1 1, .slice (some ⟨W8.heap.size, 0, none⟩) 1 1, .slice (some ⟨x10.heap.size, 0, none⟩) 1 1, .slice (some ⟨x11.heap.size, 0, none⟩) 1 1, .slice (some ⟨x12.heap.size, 0, none⟩) 1 1, .slice (some ⟨x13.heap.size, 0, none⟩) 1 1, .slice (some ⟨W13.heap.size, 0, none⟩) 2 2⟩ W14 from by
    rw [hW14]
    refine HP13.out.go 14 (.slice (some ⟨W13.heap.size, 0, none⟩) 2 2) rfl (two_alloc _ _ _ _ _) fun hl k => ?_
    have hb := Blk.new (W13.setCell ⟨bp, 14, none⟩ (.slice (some ⟨W13.heap.size, 0, none⟩) 2 2)) 9 #[.string { data := #[47, 110] }, .string { data := #[47, 111] }]
    rw [World.size_setCell] at hb
    have hr := LIn.blk (K := strK) (B := fun _ b => b ≠ bp) [({ data := #[47, 110] }, ()), ({ data := #[47, 111] }, ())] rfl rfl (by decide) rfl hb (fun p hp => by
      simp only [List.mem_cons, List.not_mem_nil, or_false] at hp
      rcases hp with rfl | rfl
      · show (2 : Nat) ≤ _
        omega
      · show (2 : Nat) ≤ _
        omega) (by omega)
    exact ⟨k.s1, k.s2, k.s3, k.s4, k.ar, k.ep, k.prov, k.req, k.con, k.obs, k.reco, k.sup, k.sug, k.enh, hr⟩)
  clear hW14
  go_cut [2] from 2 (fun s2 wx => ∃ gd : Nat, s2 = .pointer (some ⟨gd, 0, none⟩) ∧ Hid (NamesSt w gd wx))
  case first =>
    refine data_region (p := namesP) (r := (⟨.slice (some ⟨bp + 1, 0, none⟩) 2 2, .slice (some ⟨wd.heap.size + 1, 0, none⟩) 2 2, .slice (some ⟨x8.heap.size, 0, none⟩) 1 1, .slice (some ⟨W8.heap.size, 0, none⟩) 1 1, .slice (some ⟨x10.heap.size, 0, none⟩) 1 1, .slice (some ⟨x11.heap.size, 0, none⟩) 1 1, .slice (some ⟨x12.heap.size, 0, none⟩) 1 1, .slice (some ⟨x13.heap.size, 0, none⟩) 1 1, .slice (some ⟨W13.heap.size, 0, none⟩) 2 2⟩ : PkgR)) (bp := bp) (by kernel_rfl) (by kernel_rfl) rfl (fun X h => HP14.out.bx.below h HP14.out.bx.lt) (by simp [Value.oneCell']) (by kernel_rfl) (by kernel_rfl) (by kernel_rfl) (by kernel_rfl) ?_
    intro a' X v hb hfin hEx
    obtain ⟨gd, go, gp, gz, rfl, h1, h2, h3, h4⟩ := hfin
    have HH := Lib.hid (names_st HP14.out hb h1 h2 h3 h4)
    have hE2 := hEx.imp (q := fun l => (∃ gd' : Nat, (l[0]?).getD undef = .pointer (some ⟨gd', 0, none⟩) ∧ Hid (NamesSt w gd' X)) ∧ a' = frm _ l []) (fun l h => ⟨⟨gd, h.1, HH⟩, h.2⟩)
    go_step
    go_step
    refine Met.intro ?_
    go_step
    exact Eq.mp (by kernel_rfl) hE2
  case rest =>
    obtain ⟨gd, rfl, HSt⟩ := hcut
    clear HP HPa HPb HPc HPd HP7 HPx8 HP8 HP9 HPx10 HP10 HPx11 HP11 HPx12 HP12 HPx13 HP13 HP14 HAt HBa HWk HG HB1 HB2
    obtain ⟨go, gz, h1, h2, h3⟩ := HSt.out
    have HBd := Lib.hid h1
    have HDt := Lib.hid h2
    have HB := Lib.hid h3
    obtain ⟨Sx, hSx⟩ : ∃ S : ByteArray, S = ⟨(encA namesD).toArray⟩ := ⟨_, rfl⟩
    obtain ⟨Xz, hXz⟩ : ∃ S : ByteArray, S = ⟨(bytesL [122]).toArray⟩ := ⟨_, rfl⟩
    have hxz : Xz.size ≤ 20 := by rw [hXz]; decide +kernel
    have HEq := Lib.hid (show Sx = ⟨(encA namesD).toArray⟩ ∧ Xz = ⟨(bytesL [122]).toArray⟩ from ⟨hSx, hXz⟩)
    have hlen : (encA namesD).length ≤ 4194304 := by have := lenA names_may; have := names_wt; omega
    have HEn := Lib.hid (show Calls Tryz.prog 11 #[.agg #[.slice (some ⟨go, 0, none⟩) 2 2, .slice (some ⟨gz, 0, none⟩) 1 1]] wc (fun r w'' => r = .returned (.tuple #[.string Sx, .int .i64 0]) ∧ Below wc.heap.size wc w'') from hSx ▸ enc_call (encode_yes names_may hlen) (by have := names_wt; omega) wc HDt.out (HTab.out _ HB.out).1 (HTab.out _ HB.out).2)
    have HBk := Lib.hid (show ∀ w', Below wc.heap.size wc w' → Calls Tryz.prog 14 #[.agg #[.slice (some ⟨go, 0, none⟩) 2 2, .slice (some ⟨gz, 0, none⟩) 1 1]] w' (fun r w'' => r = .returned (.bool true) ∧ Below w'.heap.size w' w'') from fun w' h => back_call (back_yes names_may hlen) (by have := names_wt; omega) w' (HDt.out.bl h) (HTab.out _ (below_t' HB.out h)).1 (HTab.out _ (below_t' HB.out h)).2)
    have HBy := Lib.hid (show ∀ w', Calls Tryz.prog 13 #[.string { data := #[122] }] w' fun e w'' => e = .returned (.string Xz) ∧ Below w'.heap.size w' w'' from fun w' => hXz ▸ bytes11_any [122] (by decide) w')
    have HOn := Lib.hid (show ∀ (c : UInt8) (w' : World), Calls Tryz.prog 12 #[.string { data := #[c] }] w' fun e w'' => e = .returned (.string { data := #[1, 1, 1, c, 0] }) ∧ w' = w'' from fun c w' => (one_any { data := #[c] } (by show (1 : Nat) ≤ 100; omega) w').mono fun r w'' ⟨k1, k2⟩ => ⟨k1, k2⟩)
    have c0 : wc.cell? ⟨gd, 0, none⟩ = some (.slice (some ⟨go, 0, none⟩) 2 2) := HBd.out.cell 0
    have c1 : wc.cell? ⟨gd, 1, none⟩ = some (.slice (some ⟨gz, 0, none⟩) 1 1) := HBd.out.cell 1
    have cl := HBd.out.lt
    clear h1 h2 h3 hSx hXz hlen HSt
    go_upto_region 19 with (first
      | (go_at_call 11; (with_reducible refine HEn.out.mono ?_); rintro r y1 ⟨rfl, hb⟩; have HB1 := Lib.hid hb; clear hb)
      | (go_at_call 12; (with_reducible refine (HOn.out _ _).mono ?_); rintro r y2 ⟨rfl, rfl⟩)
      | (go_at_call 13; (with_reducible refine (HBy.out _).mono ?_); rintro r y3 ⟨rfl, hb⟩; have HB3 := Lib.hid (below_t' HB1.out hb); clear hb)
      | fail)
    have hN : ({ data := #[2, 200, 1, 1, 1, 97, 172, 2, 1, 49, 1, 50, 2, 1, 118, 2, 1, 98, 0, 1, 99, 2, 0, 1, 51, 0, 2, 1, 1, 100, 0, 4, 3, 1, 1, 101, 0, 1, 1, 102, 0, 1, 1, 103, 0] } : ByteArray) ++ { data := #[1, 1, 1, 104, 0] } ++ { data := #[1, 1, 105, 1, 1, 1, 52, 1, 53] } ++ { data := #[1, 1, 1, 106, 0] } ++ { data := #[1, 1, 1, 107, 0] } ++ { data := #[1, 1, 1, 108, 0] } ++ { data := #[1, 1, 1, 109, 0] } ++ { data := #[2, 2, 47, 110, 2, 47, 111] } ++ { data := #[0, 0] } ++ { data := #[1] } ++ Xz = Sx := by
      rw [HEq.out.1, HEq.out.2]
      decide +kernel
    rw [hN]
    clear hN hxz c0 c1 cl
    have HBd3 := Lib.hid (show Blk y3 gd 41 _ from HBd.out.below HB3.out HBd.out.lt)
    have e0 : y3.cell? ⟨gd, 0, none⟩ = some (.slice (some ⟨go, 0, none⟩) 2 2) := HBd3.out.cell 0
    have e1 : y3.cell? ⟨gd, 1, none⟩ = some (.slice (some ⟨gz, 0, none⟩) 1 1) := HBd3.out.cell 1
    have el := HBd3.out.lt
    have HBa := Lib.hid (fun (w' : World) => bare_any { data := #[97] } w')
    go_upto_region 23 with (first
      | (go_at_call 14; (with_reducible refine (HBk.out _ HB3.out).mono ?_); rintro r y4 ⟨rfl, hb⟩; have HB4 := Lib.hid (below_t' HB3.out hb); clear hb)
      | (go_at_call 9; (with_reducible refine (HBa.out _).mono ?_); rintro r y5 ⟨rfl, hb⟩; have HB5 := Lib.hid (show Below w.heap.size w y5 from below_t' HB.out (below_t' HB4.out hb)); clear hb)
      | fail)
    obtain ⟨bb, hbb⟩ : ∃ bb, bb = y5.heap.size := ⟨_, rfl⟩
    obtain ⟨yb, hyb⟩ : ∃ yb, yb = y5.alloc (.cells #[.string { data := #[97] }, .int .i64 0, .string { data := #[49] }, .string { data := #[50] }, .int .u8 9, .string { data := #[] }, .slice none 0 0, .slice none 0 0, .slice none 0 0, .slice none 0 0, .slice none 0 0, .slice none 0 0, .slice none 0 0, .slice none 0 0, .slice none 0 0] 29) := ⟨_, rfl⟩
    have HBb := Lib.hid (show Blk yb bb 29 #[.string { data := #[97] }, .int .i64 0, .string { data := #[49] }, .string { data := #[50] }, .int .u8 9, .string { data := #[] }, .slice none 0 0, .slice none 0 0, .slice none 0 0, .slice none 0 0, .slice none 0 0, .slice none 0 0, .slice none 0 0, .slice none 0 0, .slice none 0 0] ∧ Below w.heap.size w yb from by rw [hyb, hbb]; exact ⟨Blk.new _ _ _, below_t' HB5.out (new_b _ _)⟩)
    rw [← hyb, ← hbb]
    have HGb := Lib.hid hbb
    clear hyb hbb e0 e1 el
    have HTq := Lib.hid (show ∀ w', Below yb.heap.size yb w' → Words w' ∧ Ops w' from fun w' h => HTab.out _ (below_t' HBb.out.2 h))
    go_cut [142] from 107 (fun s142 wx => s142 = .bool false ∧ Hid (Below w.heap.size w wx))
    case first =>
      refine region23 (bb := bb) (by kernel_rfl) (by kernel_rfl) rfl (fun X h => HBb.out.1.below h HBb.out.1.lt) HTq.out (by kernel_rfl) (by kernel_rfl) (by kernel_rfl) (by kernel_rfl) ?_
      intro a' X hb hEx
      have HH := Lib.hid (below_t' HBb.out.2 hb)
      have hE2 := hEx.imp (q := fun l => ((l[35]?).getD undef = .bool false ∧ Hid (Below w.heap.size w X)) ∧ a' = frm _ l []) (fun l h => ⟨⟨h.1, HH⟩, h.2⟩)
      go_step
      go_step
      refine Met.intro ?_
      go_step
      exact Eq.mp (by kernel_rfl) hE2
    case rest =>
      obtain ⟨rfl, HBe⟩ := hcut
      go_upto_region 28 with (first
        | (go_at_call 16; (with_reducible refine (no_yes nn0 _ (HTab.out _ HBe.out).1 (HTab.out _ HBe.out).2).mono ?_); rintro r yn ⟨rfl, hb⟩; have HBe := Lib.hid (below_t' HBe.out hb); clear hb)
        | (go_at_call 16; (with_reducible refine (no_yes nn1 _ (HTab.out _ HBe.out).1 (HTab.out _ HBe.out).2).mono ?_); rintro r yn ⟨rfl, hb⟩; have HBe := Lib.hid (below_t' HBe.out hb); clear hb)
        | (go_at_call 16; (with_reducible refine (no_yes nn2 _ (HTab.out _ HBe.out).1 (HTab.out _ HBe.out).2).mono ?_); rintro r yn ⟨rfl, hb⟩; have HBe := Lib.hid (below_t' HBe.out hb); clear hb)
        | (go_at_call 16; (with_reducible refine (no_yes nn3 _ (HTab.out _ HBe.out).1 (HTab.out _ HBe.out).2).mono ?_); rintro r yn ⟨rfl, hb⟩; have HBe := Lib.hid (below_t' HBe.out hb); clear hb)
        | (go_at_call 16; (with_reducible refine (no_yes nn4 _ (HTab.out _ HBe.out).1 (HTab.out _ HBe.out).2).mono ?_); rintro r yn ⟨rfl, hb⟩; have HBe := Lib.hid (below_t' HBe.out hb); clear hb)
        | (go_at_call 16; (with_reducible refine (no_yes nn5 _ (HTab.out _ HBe.out).1 (HTab.out _ HBe.out).2).mono ?_); rintro r yn ⟨rfl, hb⟩; have HBe := Lib.hid (below_t' HBe.out hb); clear hb)
        | (go_at_call 16; (with_reducible refine (no_yes nn6 _ (HTab.out _ HBe.out).1 (HTab.out _ HBe.out).2).mono ?_); rintro r yn ⟨rfl, hb⟩; have HBe := Lib.hid (below_t' HBe.out hb); clear hb)
        | (go_at_call 16; (with_reducible refine (no_yes nn7 _ (HTab.out _ HBe.out).1 (HTab.out _ HBe.out).2).mono ?_); rintro r yn ⟨rfl, hb⟩; have HBe := Lib.hid (below_t' HBe.out hb); clear hb)
        | (go_at_call 16; (with_reducible refine (no_yes nn8 _ (HTab.out _ HBe.out).1 (HTab.out _ HBe.out).2).mono ?_); rintro r yn ⟨rfl, hb⟩; have HBe := Lib.hid (below_t' HBe.out hb); clear hb)
        | (go_at_call 16; (with_reducible refine (no_yes nn9 _ (HTab.out _ HBe.out).1 (HTab.out _ HBe.out).2).mono ?_); rintro r yn ⟨rfl, hb⟩; have HBe := Lib.hid (below_t' HBe.out hb); clear hb)
        | (go_at_call 16; (with_reducible refine (no_yes nn10 _ (HTab.out _ HBe.out).1 (HTab.out _ HBe.out).2).mono ?_); rintro r yn ⟨rfl, hb⟩; have HBe := Lib.hid (below_t' HBe.out hb); clear hb)
        | (go_at_call 16; (with_reducible refine (no_yes nn11 _ (HTab.out _ HBe.out).1 (HTab.out _ HBe.out).2).mono ?_); rintro r yn ⟨rfl, hb⟩; have HBe := Lib.hid (below_t' HBe.out hb); clear hb)
        | (go_at_call 16; (with_reducible refine (no_yes nn12 _ (HTab.out _ HBe.out).1 (HTab.out _ HBe.out).2).mono ?_); rintro r yn ⟨rfl, hb⟩; have HBe := Lib.hid (below_t' HBe.out hb); clear hb)
        | fail)
      go_wp2_with fail
      go_loop [9, 10] (fun s i => ∃ k : Nat, k ≤ 8 ∧ i = .int .i64 k ∧ s = .string (deepN k)) (fun _ i => 8 - (intOf i).toNat)
      case atStart => exact ⟨0, by omega, rfl, rfl⟩
      case round =>
        obtain ⟨k, hk, rfl, rfl⟩ := hrel
        have hsz : (deepN k).size ≤ 29 := by rw [deepN_size]; omega
        by_cases hlt : k < 8
        · have hki : (k : Int) < 8 := by omega
          go_wp2_with fail
          go_round
          case rel => exact ⟨k + 1, by omega, by go_num, rfl⟩
          case measure => simp [intOf]; omega
        · obtain rfl : k = 8 := by omega
          obtain ⟨D8, hD8⟩ : ∃ D, D = deepN 8 := ⟨_, rfl⟩
          rw [← hD8] at hsz ⊢
          obtain ⟨Xa, hXa⟩ : ∃ S : ByteArray, S = ⟨(bytesL [97]).toArray⟩ := ⟨_, rfl⟩
          obtain ⟨Xo, hXo⟩ : ∃ S : ByteArray, S = ⟨(bytesL [111, 114]).toArray⟩ := ⟨_, rfl⟩
          have hxa : Xa.size ≤ 20 := by rw [hXa]; decide +kernel
          have hxo : Xo.size ≤ 20 := by rw [hXo]; decide +kernel
          have HYa := Lib.hid (show ∀ w', Calls Tryz.prog 13 #[.string { data := #[97] }] w' fun e w'' => e = .returned (.string Xa) ∧ Below w'.heap.size w' w'' from fun w' => hXa ▸ bytes11_any [97] (by decide) w')
          have HYo := Lib.hid (show ∀ w', Calls Tryz.prog 13 #[.string { data := #[111, 114] }] w' fun e w'' => e = .returned (.string Xo) ∧ Below w'.heap.size w' w'' from fun w' => hXo ▸ bytes11_any [111, 114] (by decide) w')
          have HN1 := Lib.hid (show noE (({ data := #[0, 2] } ++ Xa) ++ Xo) (2 + ((Xa.size : Nat) : Int)) 4 = true from by rw [hXa, hXo]; exact nor)
          have HN2 := Lib.hid (show noE (D8 ++ { data := #[2, 2] }) (D8.size : Int) 21 = true from by rw [hD8]; exact nd1)
          have HN3 := Lib.hid (show noE D8 (D8.size : Int) 8 = true from by rw [hD8]; exact nd2)
          clear hD8 hXa hXo hlt hk
          go_wp2_with (first
            | (go_at_call 13; (with_reducible refine (HYa.out _).mono ?_); rintro r yn ⟨rfl, hb⟩; have HBe := Lib.hid (below_t' HBe.out hb); clear hb)
            | (go_at_call 13; (with_reducible refine (HYo.out _).mono ?_); rintro r yn ⟨rfl, hb⟩; have HBe := Lib.hid (below_t' HBe.out hb); clear hb)
            | (go_at_call 16; (with_reducible refine (no_yes HN1.out _ (HTab.out _ HBe.out).1 (HTab.out _ HBe.out).2).mono ?_); rintro r yn ⟨rfl, hb⟩; have HBe := Lib.hid (below_t' HBe.out hb); clear hb)
            | (go_at_call 16; (with_reducible refine (no_yes HN2.out _ (HTab.out _ HBe.out).1 (HTab.out _ HBe.out).2).mono ?_); rintro r yn ⟨rfl, hb⟩; have HBe := Lib.hid (below_t' HBe.out hb); clear hb)
            | (go_at_call 16; (with_reducible refine (no_yes HN3.out _ (HTab.out _ HBe.out).1 (HTab.out _ HBe.out).2).mono ?_); rintro r yn ⟨rfl, hb⟩; have HBe := Lib.hid (below_t' HBe.out hb); clear hb)
            | fail)
          go_ret
          exact ⟨rfl, HBe.out⟩
end Go.Proofs.YtdpjjnbelgaagaaGreatDoor
