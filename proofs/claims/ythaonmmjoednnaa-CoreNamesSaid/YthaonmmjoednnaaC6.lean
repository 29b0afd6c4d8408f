/- The document's rest. Conditions: as each theorem names them. -/
import Derived.Test.YthaonmmjoednnaaC5
namespace Go.Proofs.Ythaonmmjoednnaa
open Go.ChangeShapes Go.WideShapes Go.ChangeAt Go.RowKit Go.Maps Go.Deep
set_option maxRecDepth 100000

/-- A list that rises, of numbers 0 to N - 1. -/
def GoodL (N : Nat) (l : List Int) : Prop := l.Pairwise (· < ·) ∧ ∀ x ∈ l, 0 ≤ x ∧ x < N
theorem rise_len : ∀ {l : List Int} {a : Int} {N : Nat} (_ : l.Pairwise (· < ·)) (_ : ∀ x ∈ l, a ≤ x ∧ x < N), (l.length : Int) ≤ 0 ∨ (l.length : Int) + a ≤ N
  | [], _, _, _, _ => .inl (by simp)
  | x :: l, a, N, h1, h2 => by
    rw [List.pairwise_cons] at h1
    have hx := h2 x (by simp)
    rcases rise_len (a := x + 1) (N := N) h1.2 (fun y hy => ⟨by have := h1.1 y hy; omega, (h2 y (by simp [hy])).2⟩) with h | h
    · right
      simp only [List.length_cons]
      omega
    · right
      simp only [List.length_cons]
      omega
theorem GoodL.len {N : Nat} {l : List Int} (h : GoodL N l) : l.length ≤ N := by
  rcases rise_len (a := 0) h.1 h.2 with h | h <;> omega
theorem GoodL.nil (N : Nat) : GoodL N [] := ⟨List.Pairwise.nil, fun x hx => by simp at hx⟩
theorem GoodL.put {N : Nat} {l : List Int} (h : GoodL N l) {y : Int} (hy : 0 ≤ y ∧ y < N) : GoodL N (putE l y) := ⟨putE_rise h.1, fun x hx => by
  rcases (putE_mem l y x).1 hx with e | e
  · exact h.2 x e
  · rw [e]; exact hy⟩
theorem restE_succ (rs : List (List Int)) (N : Nat) {l : List Int} {k : Nat} (h : k < l.length) : restE rs N (l.take (k + 1)) = restOne rs N (restE rs N (l.take k)) l[k] := by
  unfold restE
  rw [List.take_succ_eq_append_getElem h, List.foldl_append]
  rfl
theorem putsE_succ (out : List Int) {l : List Int} {k : Nat} (h : k < l.length) : putsE out (l.take (k + 1)) = putE (putsE out (l.take k)) l[k] := by
  unfold putsE
  rw [List.take_succ_eq_append_getElem h, List.foldl_append]
  rfl
def restO (rs : List (List Int)) (N : Nat) (l : List Int) (below : Int) : List Int × Bool := if fitsE l below then (restE rs N l, true) else ([], false)
abbrev RestOut (o : List Int × Bool) (w : World) (e : Ending) (w' : World) : Prop :=
  ∃ ao' cap', e = .returned (.tuple #[.slice ao' o.1.length cap', .bool o.2]) ∧ IntsC w' ao' cap' o.1 ∧ Below w.heap.size w w'
theorem fitsE_yes {l : List Int} {b : Int} (h : ∀ j (hj : j < l.length), 0 ≤ l[j] ∧ l[j] < b) : fitsE l b = true := by
  unfold fitsE
  rw [Bool.not_eq_true', List.any_eq_false]
  intro x hx
  obtain ⟨j, hj, rfl⟩ := List.getElem_of_mem hx
  have := h j hj
  simp
  omega
theorem fitsE_no {l : List Int} {b : Int} {j : Nat} (hj : j < l.length) (h : l[j] < 0 ∨ b ≤ l[j]) : fitsE l b = false := by
  rw [← Bool.not_eq_true]
  intro h2
  have := fitsE_mem h2 l[j] (List.getElem_mem hj)
  omega

set_option maxHeartbeats 2000000 in
theorem rest_any (N : Nat) (rs : List (List Int)) (l : List Int) (below : Int) (ar al : Option Addr) (capr capl : Nat) (av : Nat → Option Addr) (cv : Nat → Nat) (w : World) (hN : N ≤ 100000) (hR : IsRows w ar rs av cv) (hL : Ints w al l)
    (hrs : ∀ j (h : j < rs.length), GoodL N rs[j]) (hbl : below ≤ (N : Int) + rs.length) (hrl : rs.length ≤ 100000) (hll : l.length ≤ 1000000) :
    Calls Try.prog 20 #[.slice ar rs.length capr, .int .i64 N, .slice al l.length capl, .int .i64 below] w (RestOut (restO rs N l below) w) := by
  obtain ⟨o, ho⟩ : ∃ o, o = restO rs N l below := ⟨_, rfl⟩
  rw [← ho]
  have HR := Lib.hid hR
  have HL := Lib.hid hL
  have HO := Lib.hid ho
  have HG := Lib.hid hrs
  clear hR hL ho hrs
  go_enter Try.func20, Try.ntmps20
  go_wp2_with fail
  go_loopw [10, 11] (fun s i wr => ∃ (k n c : Nat) (a : Option Addr), k ≤ l.length ∧ i = .int .i64 k ∧ s = .slice a n c ∧ Hid (Below w.heap.size w wr) ∧ Hid (n = (restE rs N (l.take k)).length ∧ IntsC wr a c (restE rs N (l.take k)) ∧ GoodL N (restE rs N (l.take k)) ∧ ∀ j (h : j < l.length), j < k → 0 ≤ l[j] ∧ l[j] < below)) (fun _ i _ => l.length - (intOf i).toNat)
  case atStart => exact ⟨0, 0, 0, none, by omega, rfl, rfl, Lib.hid (Below.refl _ _), Lib.hid ⟨rfl, IntsC.nil _, GoodL.nil _, fun j _ h => absurd h (Nat.not_lt_zero _)⟩⟩
  case round =>
    obtain ⟨k, n, c, a, hk, rfl, rfl, HB, HI⟩ := hrel
    by_cases hlt : k < l.length
    · have hki : (k : Int) < (l.length : Int) := by omega
      obtain ⟨b, off, e, _, hcells⟩ := HL.out.below HB.out (by omega)
      subst e
      have hck := hcells k hlt
      obtain ⟨y, hy⟩ : ∃ y, y = l[k] := ⟨_, rfl⟩
      rw [← hy] at hck
      have HY := Lib.hid hy
      clear hcells hy
      by_cases hbad : y < 0 ∨ below ≤ y
      · obtain rfl : o = ([], false) := by rw [HO.out]; unfold restO; rw [fitsE_no hlt (by rw [← HY.out]; exact hbad)]; rfl
        have HE := Lib.hid (show RestOut ([], false) w (.returned (.tuple #[.slice none 0 0, .bool false])) wr from ⟨none, 0, rfl, IntsC.nil _, HB.out⟩)
        by_cases hn : y < 0
        · have hd : decide (y < 0) = true := by simpa using hn
          clear hbad hn HO
          go_wp2_with fail
          go_ret2
          exact HE.out
        · have hd : decide (y < 0) = false := by simpa using hn
          have hd2 : decide (below ≤ y) = true := by simp; omega
          clear hbad hn HO
          go_wp2_with fail
          go_ret2
          exact HE.out
      · have hd : decide (y < 0) = false := by simp; omega
        have hd2 : decide (below ≤ y) = false := by simp; omega
        have hys : 0 ≤ y ∧ y < below := by omega
        have hfit : ∀ j (h : j < l.length), j < k + 1 → 0 ≤ l[j] ∧ l[j] < below := fun j h hj => by
          rcases Nat.lt_succ_iff_lt_or_eq.1 hj with h1 | h1
          · exact HI.out.2.2.2 j h h1
          · subst h1; rw [← HY.out]; exact hys
        have HFit := Lib.hid hfit
        clear hfit hbad
        by_cases hyn : y < N
        · have hnext : restE rs N (l.take (k + 1)) = putE (restE rs N (l.take k)) y := by
            rw [restE_succ rs N hlt, ← HY.out]
            unfold restOne
            rw [if_pos hyn]
          have HPut : Hid (Calls Try.prog 21 #[.slice a n c, .int .i64 y] wr (PutOut (restE rs N (l.take (k + 1))) wr)) := Lib.hid (by
            rw [hnext, HI.out.1]
            exact put_any _ y a c wr HI.out.2.1 (by have := HI.out.2.2.1.len; omega))
          have HGd := Lib.hid (show GoodL N (restE rs N (l.take (k + 1))) by rw [hnext]; exact HI.out.2.2.1.put ⟨hys.1, hyn⟩)
          clear hnext HI
          go_wp2_with (go_at_call 21; (with_reducible refine HPut.out.mono ?_); rintro e w2 ⟨a2, c2, rfl, hi2, hb2⟩)
          go_roundw
          case rel => exact ⟨k + 1, _, c2, a2, by omega, by go_num, rfl, Lib.hid (bel_trans HB.out hb2), Lib.hid ⟨rfl, hi2, HGd.out, HFit.out⟩⟩
          case measure => simp [intOf]; omega
        · obtain ⟨t, ht⟩ : ∃ t : Nat, t = y.toNat - N := ⟨_, rfl⟩
          have htl : t < rs.length := by omega
          have hti : (t : Int) < (rs.length : Int) := by omega
          have hwt : IntKind.i64.wrap (y - (N : Int)) = (t : Int) := by rw [IntKind.wrap_i64]; omega
          have hnext : restE rs N (l.take (k + 1)) = putsE (restE rs N (l.take k)) rs[t] := by
            rw [restE_succ rs N hlt, ← HY.out]
            unfold restOne
            rw [if_neg hyn, ← ht, List.getD_eq_getElem?_getD, List.getElem?_eq_getElem htl]
            rfl
          have HNext := Lib.hid hnext
          have HG2 := Lib.hid (HG.out t htl)
          have hrt : rs[t].length ≤ 100000 := by have := HG2.out.len; omega
          obtain ⟨wo, hwo⟩ : ∃ wo : World, wo = wr := ⟨_, rfl⟩
          subst hwo
          have HRw := Lib.hid (HR.out.below HB.out)
          obtain ⟨br, offr, e2, _, hrows⟩ := HRw.out.rows (by omega)
          subst e2
          have hrowt := hrows t htl
          have HIt := Lib.hid (HRw.out.ints t htl)
          have HP0 := Lib.hid (show n = (putsE (restE rs N (l.take k)) (rs[t].take 0)).length ∧ IntsC wo a c (putsE (restE rs N (l.take k)) (rs[t].take 0)) ∧ GoodL N (putsE (restE rs N (l.take k)) (rs[t].take 0)) from ⟨HI.out.1, HI.out.2.1, HI.out.2.2.1⟩)
          obtain ⟨r, hr⟩ : ∃ r, r = rs[t] := ⟨_, rfl⟩
          rw [← hr] at hrowt HG2 hrt HIt HP0 HNext
          obtain ⟨out, hout⟩ : ∃ out, out = restE rs N (l.take k) := ⟨_, rfl⟩
          rw [← hout] at HP0 HNext
          clear hnext HI ht hrows hr hout HRw
          go_wp2_with fail
          go_loopw [10, 13] (fun s i wr => ∃ (j n c : Nat) (a : Option Addr), j ≤ r.length ∧ i = .int .i64 j ∧ s = .slice a n c ∧ Hid (Below wo.heap.size wo wr) ∧ Hid (n = (putsE out (r.take j)).length ∧ IntsC wr a c (putsE out (r.take j)) ∧ GoodL N (putsE out (r.take j)))) (fun _ i _ => r.length - (intOf i).toNat)
          case atStart => exact ⟨0, n, c, a, by omega, rfl, rfl, Lib.hid (Below.refl _ _), HP0⟩
          case round =>
            obtain ⟨j, n2, c2, a2, hj, rfl, rfl, HB2, HI2⟩ := hrel
            have hrow2 := (bel_cell HB2.out hrowt).trans hrowt
            by_cases hjt : j < r.length
            · have hji : (j : Int) < (r.length : Int) := by omega
              obtain ⟨b3, off3, e3, _, hc3⟩ := HIt.out.below HB2.out (by omega)
              rw [e3] at hrow2
              have hcj := hc3 j hjt
              obtain ⟨z, hz⟩ : ∃ z, z = r[j] := ⟨_, rfl⟩
              have hzr := HG2.out.2 _ (List.getElem_mem hjt)
              rw [← hz] at hcj hzr
              have hnext : putsE out (r.take (j + 1)) = putE (putsE out (r.take j)) z := by rw [putsE_succ out hjt, hz]
              have HPut : Hid (Calls Try.prog 21 #[.slice a2 n2 c2, .int .i64 z] wr (PutOut (putsE out (r.take (j + 1))) wr)) := Lib.hid (by
                rw [hnext, HI2.out.1]
                exact put_any _ z a2 c2 wr HI2.out.2.1 (by have := HI2.out.2.2.len; omega))
              have HGd := Lib.hid (show GoodL N (putsE out (r.take (j + 1))) by rw [hnext]; exact HI2.out.2.2.put hzr)
              clear hnext HI2 hz hc3 hzr
              go_wp2_with (go_at_call 21; (with_reducible refine HPut.out.mono ?_); rintro e w2 ⟨a4, c4, rfl, hi4, hb4⟩)
              go_roundw
              case rel => exact ⟨j + 1, _, c4, a4, by omega, by go_num, rfl, Lib.hid (bel_trans HB2.out hb4), Lib.hid ⟨rfl, hi4, HGd.out⟩⟩
              case measure => simp [intOf]; omega
            · obtain rfl : j = r.length := by omega
              have hI3 := HI2.out
              rw [List.take_length, ← HNext.out] at hI3
              have HI3 := Lib.hid hI3
              clear hI3 HI2
              go_wp2_with fail
              go_roundw
              case rel => exact ⟨k + 1, n2, c2, a2, by omega, by go_num, rfl, Lib.hid (bel_trans HB.out HB2.out), Lib.hid ⟨HI3.out.1, HI3.out.2.1, HI3.out.2.2, HFit.out⟩⟩
              case measure => simp [intOf]; omega
    · obtain rfl : k = l.length := by omega
      have h1 := HI.out
      rw [List.take_length] at h1
      obtain rfl : o = (restE rs N l, true) := by rw [HO.out]; unfold restO; rw [fitsE_yes fun j hj => h1.2.2.2 j hj hj]; rfl
      obtain ⟨hn, h2, _, _⟩ := h1
      subst hn
      have HE := Lib.hid h2
      clear HI h2 HO
      go_wp2_with fail
      go_ret2
      exact ⟨a, c, rfl, HE.out, HB.out⟩

end Go.Proofs.Ythaonmmjoednnaa
