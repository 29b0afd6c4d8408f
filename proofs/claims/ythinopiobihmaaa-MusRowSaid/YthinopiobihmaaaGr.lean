/- The document's Holds, Check (printed by genmu.py). Conditions: as each theorem names them. -/
import Derived.Test.YthinopiobihmaaaGq
namespace Go.Proofs.Ythinopiobihmaaa
open Go.ChangeShapes Go.WideShapes Go.ChangeAt Go.RowKit Go.Maps Go.Deep
set_option maxRecDepth 100000

def trueE (st : List Bool) (x : Int) : Bool := if 1 ≤ x ∧ x ≤ st.length then st.getD (x - 1).toNat false else if x ≤ -1 ∧ -(st.length : Int) ≤ x then !st.getD (-x - 1).toNat false else false

def holdsC (st : List Bool) (c : List Int) : Bool := c.any (trueE st)

def holdsCl (st : List Bool) (cl : List (List Int)) : Bool := cl.all (holdsC st)

theorem trueE_pos {st : List Bool} {j : Nat} (h : j < st.length) : trueE st ((j : Int) + 1) = st[j] := by
  unfold trueE
  rw [if_pos (by omega)]
  have : ((j : Int) + 1 - 1).toNat = j := by omega
  rw [this, List.getD_eq_getElem?_getD, List.getElem?_eq_getElem h]
  rfl

theorem trueE_neg {st : List Bool} {j : Nat} (h : j < st.length) : trueE st (-(j : Int) - 1) = !st[j] := by
  unfold trueE
  rw [if_neg (by omega), if_pos (by omega)]
  have : (-(-(j : Int) - 1) - 1).toNat = j := by omega
  rw [this, List.getD_eq_getElem?_getD, List.getElem?_eq_getElem h]
  rfl

theorem lit_cases (n : Nat) (x : Int) : (∃ j : Nat, j < n ∧ x = (j : Int) + 1) ∨ (∃ j : Nat, j < n ∧ x = -(j : Int) - 1) ∨ ((x < 1 ∨ (n : Int) < x) ∧ (-1 < x ∨ x < -(n : Int))) := by
  by_cases h : 1 ≤ x ∧ x ≤ n
  · exact .inl ⟨(x - 1).toNat, by omega, by omega⟩
  · by_cases h2 : x ≤ -1 ∧ -(n : Int) ≤ x
    · exact .inr (.inl ⟨(-x - 1).toNat, by omega, by omega⟩)
    · exact .inr (.inr (by omega))

theorem trueE_out {st : List Bool} {x : Int} (h : (x < 1 ∨ (st.length : Int) < x) ∧ (-1 < x ∨ x < -(st.length : Int))) : trueE st x = false := by
  unfold trueE
  rw [if_neg (by omega), if_neg (by omega)]

def Bools (w : World) (ao : Option Addr) (l : List Bool) : Prop :=
  0 < l.length → ∃ b off, ao = some ⟨b, off, none⟩ ∧ b < w.heap.size ∧ ∀ j (h : j < l.length), w.cell? ⟨b, off + j, none⟩ = some (.bool l[j])

theorem Bools.below {w w' : World} {ao : Option Addr} {l : List Bool} (h : Bools w ao l) (hb : Below w.heap.size w w') : Bools w' ao l := fun h0 => by
  obtain ⟨b, off, e, hbl, hc⟩ := h h0
  exact ⟨b, off, e, Nat.lt_of_lt_of_le hbl hb.size, fun j hj => (World.cell?_of_block (w := w) (hb.block b hbl)).trans (hc j hj)⟩

theorem Own.bools {w : World} {v : Value} {l : List Bool} (h : Own w 4 1 v l.length (boC l)) : ∃ ao cap, v = .slice ao l.length cap ∧ Bools w ao l := by
  obtain ⟨ao, cap, rfl, _, _, hf⟩ := h.form
  refine ⟨ao, cap, rfl, fun h0 => ?_⟩
  obtain ⟨b, off, rfl, hc, _, hbl⟩ := hf h0
  exact ⟨b, off, rfl, hbl, fun j hj => by have := hc j (by simpa [boC] using hj); simpa [boC, hj] using this⟩

set_option maxHeartbeats 4000000 in
theorem true_any (st : List Bool) (ao : Option Addr) (cap : Nat) (x : Int) (hx : I64 x) (w : World) (hs : Bools w ao st) (hl : st.length ≤ 1000000) :
    Calls Try.prog 52 #[.slice ao st.length cap, .int .i64 x] w fun e w' => e = .returned (.bool (trueE st x)) ∧ w = w' := by
  unfold I64 at hx
  rcases lit_cases st.length x with ⟨j, hj, rfl⟩ | ⟨j, hj, rfl⟩ | h
  · rw [trueE_pos hj]
    obtain ⟨b, off, rfl, _, hc⟩ := hs (by omega)
    have hcj := hc j hj
    generalize st[j] = t at *
    have h1 : decide (1 ≤ (j : Int) + 1) = true := by simp; omega
    have h2 : decide ((j : Int) + 1 ≤ (st.length : Int)) = true := by simp; omega
    have hw : IntKind.i64.wrap ((j : Int) + 1 - 1) = (j : Int) := by rw [IntKind.wrap_i64]; omega
    have hji : (j : Int) < (st.length : Int) := by omega
    clear hc hs
    go_enter Try.func52, Try.ntmps52
    go_wp2_with fail
    go_ret
    exact ⟨rfl, rfl⟩
  · rw [trueE_neg hj]
    obtain ⟨b, off, rfl, _, hc⟩ := hs (by omega)
    have hcj := hc j hj
    generalize st[j] = t at *
    have h1 : decide (1 ≤ -(j : Int) - 1) = false := by simp; omega
    have h3 : decide (-(j : Int) - 1 ≤ -1) = true := by simp; omega
    have h4 : IntKind.i64.wrap (-(st.length : Int)) = -(st.length : Int) := by rw [IntKind.wrap_i64]; omega
    have h2 : decide (-(st.length : Int) ≤ -(j : Int) - 1) = true := by simp; omega
    have hw1 : IntKind.i64.wrap (-(-(j : Int) - 1)) = (j : Int) + 1 := by rw [IntKind.wrap_i64]; omega
    have hw : IntKind.i64.wrap ((j : Int) + 1 - 1) = (j : Int) := by rw [IntKind.wrap_i64]; omega
    have hji : (j : Int) < (st.length : Int) := by omega
    clear hc hs
    go_enter Try.func52, Try.ntmps52
    go_wp2_with fail
    go_ret
    exact ⟨rfl, rfl⟩
  · rw [trueE_out h]
    clear hs
    by_cases hp : 1 ≤ x
    · have h1 : decide (1 ≤ x) = true := by simpa using hp
      have h2 : decide (x ≤ (st.length : Int)) = false := by simp; omega
      have h3 : decide (x ≤ -1) = false := by simp; omega
      go_enter Try.func52, Try.ntmps52
      go_wp2_with fail
      go_ret
      exact ⟨rfl, rfl⟩
    · have h1 : decide (1 ≤ x) = false := by simpa using hp
      by_cases hn : x ≤ -1
      · have h3 : decide (x ≤ -1) = true := by simpa using hn
        have h4 : IntKind.i64.wrap (-(st.length : Int)) = -(st.length : Int) := by rw [IntKind.wrap_i64]; omega
        have h2 : decide (-(st.length : Int) ≤ x) = false := by simp; omega
        go_enter Try.func52, Try.ntmps52
        go_wp2_with fail
        go_ret
        exact ⟨rfl, rfl⟩
      · have h3 : decide (x ≤ -1) = false := by simpa using hn
        go_enter Try.func52, Try.ntmps52
        go_wp2_with fail
        go_ret
        exact ⟨rfl, rfl⟩

set_option maxHeartbeats 4000000 in
theorem rholds_any (st : List Bool) (ao : Option Addr) (cap : Nat) (cl : List (List Int)) (aoc : Option Addr) (capc : Nat) (av : Nat → Option Addr) (cv : Nat → Nat) (w : World) (hs : Bools w ao st) (hl : st.length ≤ 1000000) (hc : IsRows w aoc cl av cv) (hcl : cl.length ≤ 1000000) (hll : ∀ c ∈ cl, c.length ≤ 1000000) (hI : ∀ c ∈ cl, ∀ x ∈ c, I64 x) :
    Calls Try.prog 33 #[.slice ao st.length cap, .slice aoc cl.length capc] w fun e w' => e = .returned (.bool (holdsCl st cl)) ∧ w = w' := by
  obtain ⟨T, hT⟩ : ∃ T, T = holdsCl st cl := ⟨_, rfl⟩
  rw [← hT]
  have HT := Lib.hid hT
  have HC := Lib.hid hc
  have HL := Lib.hid hll
  have HI := Lib.hid hI
  have HS := Lib.hid hs
  clear hT hc hll hI hs
  go_enter Try.func33, Try.ntmps33
  go_wp2_with fail
  go_loop [5] (fun i => ∃ k : Nat, k ≤ cl.length ∧ i = .int .i64 k ∧ Hid (T = holdsCl st (cl.drop k))) (fun i => cl.length - (intOf i).toNat)
  case atStart => exact ⟨0, by omega, rfl, HT⟩
  case round =>
    obtain ⟨k, hk, rfl, HR⟩ := hrel
    by_cases hlt : k < cl.length
    · obtain ⟨b, off, rfl, _, hcell⟩ := HC.out.rows (by omega)
      have hck := hcell k hlt
      have hki : (k : Int) < (cl.length : Int) := by omega
      have hints := HC.out.ints k hlt
      have hlen := HL.out _ (List.getElem_mem hlt)
      have hI64 := HI.out _ (List.getElem_mem hlt)
      have hr := HR.out
      rw [List.drop_eq_getElem_cons hlt] at hr
      have hr2 : T = (holdsC st cl[k] && holdsCl st (cl.drop (k + 1))) := hr
      generalize cl[k] = c at *
      have HR2 := Lib.hid hr2
      have HIn := Lib.hid hints
      have HI6 := Lib.hid hI64
      clear hr hr2 HR hcell hints hI64
      go_wp2_with fail
      go_loop [6, 7] (fun s i => ∃ (m : Nat) (q : Bool), m ≤ c.length ∧ i = .int .i64 m ∧ s = .bool q ∧ Hid (holdsC st c = (q || holdsC st (c.drop m)))) (fun _ i => c.length - (intOf i).toNat)
      case atStart => exact ⟨0, false, by omega, rfl, rfl, Lib.hid (by simp)⟩
      case round =>
        obtain ⟨m, q, hm, rfl, rfl, HQ⟩ := hrel
        by_cases hmt : m < c.length
        · have hmi : (m : Int) < (c.length : Int) := by omega
          have hq := HQ.out
          rw [List.drop_eq_getElem_cons hmt] at hq
          have hq2 : holdsC st c = (q || (trueE st c[m] || holdsC st (c.drop (m + 1)))) := hq
          cases q with
          | true =>
            have HQ2 : Hid (holdsC st c = (true || holdsC st (c.drop (m + 1)))) := Lib.hid (by rw [hq2]; rfl)
            clear hq hq2 HQ
            go_wp2_with fail
            go_round
            case rel => exact ⟨m + 1, true, by omega, by go_num, rfl, HQ2⟩
            case measure => simp [intOf]; omega
          | false =>
            obtain ⟨b2, off2, hav, _, hcc⟩ := HIn.out (by omega)
            rw [hav] at hck
            have hcm := hcc m hmt
            have HTr := Lib.hid (true_any st ao cap c[m] (HI6.out _ (List.getElem_mem hmt)) w HS.out hl)
            have HQ2 : Hid (holdsC st c = (trueE st c[m] || holdsC st (c.drop (m + 1)))) := Lib.hid (by rw [hq2]; simp)
            generalize c[m] = y at *
            generalize trueE st y = q2 at *
            clear hq hq2 HQ hcc hav
            go_wp2_with (go_at_call 52; refine HTr.out.mono ?_; rintro e w' ⟨rfl, rfl⟩)
            go_round
            case rel => exact ⟨m + 1, q2, by omega, by go_num, rfl, HQ2⟩
            case measure => simp [intOf]; omega
        · obtain rfl : m = c.length := by omega
          have hq := HQ.out
          rw [List.drop_length] at hq
          have hq2 : holdsC st c = q := by rw [hq]; simp [holdsC]
          have hr2 := HR2.out
          rw [hq2] at hr2
          clear hq hq2 HQ
          cases q with
          | true =>
            have HR3 : Hid (T = holdsCl st (cl.drop (k + 1))) := Lib.hid (by rw [hr2]; simp)
            clear hr2 HR2
            go_wp2_with fail
            go_round
            case rel => exact ⟨k + 1, by omega, by go_num, HR3⟩
            case measure => simp [intOf]; omega
          | false =>
            obtain rfl : T = false := by rw [hr2]; simp
            clear hr2 HR2
            go_wp2_with fail
            go_ret
            exact ⟨rfl, rfl⟩
    · obtain rfl : k = cl.length := by omega
      have hr := HR.out
      rw [List.drop_length] at hr
      obtain rfl : T = true := hr
      clear HR
      go_wp2_with fail
      go_ret
      exact ⟨rfl, rfl⟩

def litOk (vars x : Int) : Bool := !(x == 0 || decide (vars < x) || decide (x < -vars))

def checkE (vars : Int) (cl : List (List Int)) (budget : Int) : Int :=
  if vars < 0 ∨ 2097152 < vars ∨ budget < 0 ∨ 1099511627776 < budget then 1 else if (cl.all fun c => c.all (litOk vars)) = true then 0 else 1

theorem litOk_known (n : Nat) (x : Int) : litOk n x = decide (1 ≤ x.natAbs ∧ x.natAbs ≤ n) := by
  unfold litOk
  by_cases h : 1 ≤ x.natAbs ∧ x.natAbs ≤ n
  · have h1 : (x == 0) = false := by simp; omega
    have h2 : decide ((n : Int) < x) = false := by simp; omega
    have h3 : decide (x < -(n : Int)) = false := by simp; omega
    rw [h1, h2, h3, decide_eq_true h]
    rfl
  · rw [decide_eq_false h]
    by_cases h0 : x = 0
    · subst h0; rfl
    · by_cases h2 : (n : Int) < x
      · simp [h2]
      · have h3 : x < -(n : Int) := by omega
        simp [h3]

theorem checkE_known (n : Nat) (cl : List (List Int)) (budget : Int) (hn : n ≤ 2097152) (hb : 0 ≤ budget ∧ budget ≤ 1099511627776) : checkE n cl budget = if cl.all (knownS n) = true then 0 else 1 := by
  unfold checkE
  rw [if_neg (by omega)]
  have : (fun c : List Int => c.all (litOk n)) = knownS n := by
    funext c
    unfold knownS
    congr 1
    funext x
    exact litOk_known n x
  rw [this]

set_option maxHeartbeats 4000000 in
theorem check_any (vars : Int) (cl : List (List Int)) (budget : Int) (aoc : Option Addr) (capc : Nat) (av : Nat → Option Addr) (cv : Nat → Nat) (w : World) (hc : IsRows w aoc cl av cv) (hcl : cl.length ≤ 1000000) (hll : ∀ c ∈ cl, c.length ≤ 1000000) :
    Calls Try.prog 21 #[.int .i64 vars, .slice aoc cl.length capc, .int .i64 budget] w fun e w' => e = .returned (.int .i64 (checkE vars cl budget)) ∧ w = w' := by
  unfold checkE
  by_cases h1 : vars < 0
  · rw [if_pos (.inl h1)]
    have h1d : decide (vars < 0) = true := by simpa using h1
    clear hc
    go_enter Try.func21, Try.ntmps21
    go_wp2_with fail
    go_ret
    exact ⟨rfl, rfl⟩
  have h1d : decide (vars < 0) = false := by simpa using h1
  by_cases h2 : 2097152 < vars
  · rw [if_pos (.inr (.inl h2))]
    have h2d : decide (2097152 < vars) = true := by simpa using h2
    clear hc
    go_enter Try.func21, Try.ntmps21
    go_wp2_with fail
    go_ret
    exact ⟨rfl, rfl⟩
  have h2d : decide (2097152 < vars) = false := by simpa using h2
  by_cases h3 : budget < 0
  · rw [if_pos (.inr (.inr (.inl h3)))]
    have h3d : decide (budget < 0) = true := by simpa using h3
    clear hc
    go_enter Try.func21, Try.ntmps21
    go_wp2_with fail
    go_ret
    exact ⟨rfl, rfl⟩
  have h3d : decide (budget < 0) = false := by simpa using h3
  by_cases h4 : 1099511627776 < budget
  · rw [if_pos (.inr (.inr (.inr h4)))]
    have h4d : decide (1099511627776 < budget) = true := by simpa using h4
    clear hc
    go_enter Try.func21, Try.ntmps21
    go_wp2_with fail
    go_ret
    exact ⟨rfl, rfl⟩
  have h4d : decide (1099511627776 < budget) = false := by simpa using h4
  rw [if_neg (by omega)]
  obtain ⟨T, hT⟩ : ∃ T, T = (cl.all fun c => c.all (litOk vars)) := ⟨_, rfl⟩
  rw [← hT]
  have HT := Lib.hid hT
  have HC := Lib.hid hc
  have HL := Lib.hid hll
  have hwn : IntKind.i64.wrap (-vars) = -vars := by rw [IntKind.wrap_i64]; omega
  clear hT hc hll
  go_enter Try.func21, Try.ntmps21
  go_wp2_with fail
  go_loop [7] (fun i => ∃ k : Nat, k ≤ cl.length ∧ i = .int .i64 k ∧ Hid (T = ((cl.drop k).all fun c => c.all (litOk vars)))) (fun i => cl.length - (intOf i).toNat)
  case atStart => exact ⟨0, by omega, rfl, HT⟩
  case round =>
    obtain ⟨k, hk, rfl, HR⟩ := hrel
    by_cases hlt : k < cl.length
    · obtain ⟨b, off, rfl, _, hcell⟩ := HC.out.rows (by omega)
      have hck := hcell k hlt
      have hki : (k : Int) < (cl.length : Int) := by omega
      have hclen := HL.out _ (List.getElem_mem hlt)
      have hints := HC.out.ints k hlt
      have hr := HR.out
      rw [List.drop_eq_getElem_cons hlt, List.all_cons] at hr
      generalize cl[k] = c at *
      have HR2 := Lib.hid hr
      have HIn := Lib.hid hints
      clear hr HR hcell hints
      go_wp2_with fail
      go_loop [8] (fun i => ∃ m : Nat, m ≤ c.length ∧ i = .int .i64 m ∧ Hid (c.all (litOk vars) = (c.drop m).all (litOk vars))) (fun i => c.length - (intOf i).toNat)
      case atStart => exact ⟨0, by omega, rfl, Lib.hid rfl⟩
      case round =>
        obtain ⟨m, hm, rfl, HQ⟩ := hrel
        by_cases hmt : m < c.length
        · have hmi : (m : Int) < (c.length : Int) := by omega
          have hq := HQ.out
          rw [List.drop_eq_getElem_cons hmt, List.all_cons] at hq
          obtain ⟨b2, off2, hav, _, hcc⟩ := HIn.out (by omega)
          rw [hav] at hck
          have hcm := hcc m hmt
          generalize c[m] = y at *
          have HQ2 := Lib.hid hq
          clear hq HQ hcc hav
          have hlo : litOk vars y = !(y == 0 || decide (vars < y) || decide (y < -vars)) := rfl
          by_cases e0 : y = 0
          · subst e0
            have hT : T = false := by rw [HR2.out, HQ2.out, hlo]; simp
            subst hT
            clear HQ2 HR2 hlo
            go_wp2_with fail
            go_ret
            exact ⟨rfl, rfl⟩
          · have e0d : (y == 0) = false := by simpa using e0
            by_cases e1 : vars < y
            · have e1d : decide (vars < y) = true := by simpa using e1
              have hT : T = false := by rw [HR2.out, HQ2.out, hlo, e1d]; simp
              subst hT
              clear HQ2 HR2 hlo
              go_wp2_with fail
              go_ret
              exact ⟨rfl, rfl⟩
            · have e1d : decide (vars < y) = false := by simpa using e1
              by_cases e2 : y < -vars
              · have e2d : decide (y < -vars) = true := by simpa using e2
                have hT : T = false := by rw [HR2.out, HQ2.out, hlo, e2d]; simp
                subst hT
                clear HQ2 HR2 hlo
                go_wp2_with fail
                go_ret
                exact ⟨rfl, rfl⟩
              · have e2d : decide (y < -vars) = false := by simpa using e2
                have HQ3 : Hid (c.all (litOk vars) = (c.drop (m + 1)).all (litOk vars)) := Lib.hid (by
                  have h := HQ2.out
                  rw [hlo, e0d, e1d, e2d] at h
                  simpa using h)
                clear HQ2 hlo
                go_wp2_with fail
                go_round
                case rel => exact ⟨m + 1, by omega, by go_num, HQ3⟩
                case measure => simp [intOf]; omega
        · obtain rfl : m = c.length := by omega
          have hq := HQ.out
          rw [List.drop_length] at hq
          have HR3 : Hid (T = ((cl.drop (k + 1)).all fun c => c.all (litOk vars))) := Lib.hid (by rw [HR2.out, hq]; simp)
          clear hq HQ HR2
          go_wp2_with fail
          go_round
          case rel => exact ⟨k + 1, by omega, by go_num, HR3⟩
          case measure => simp [intOf]; omega
    · obtain rfl : k = cl.length := by omega
      have hr := HR.out
      rw [List.drop_length] at hr
      obtain rfl : T = true := hr
      clear HR
      go_wp2_with fail
      go_ret
      exact ⟨rfl, rfl⟩

end Go.Proofs.Ythinopiobihmaaa

namespace Go.Proofs.Ythinopiobihmaaa
open Go.ChangeShapes Go.WideShapes Go.ChangeAt Go.RowKit Go.Maps Go.Deep
set_option maxRecDepth 100000

/-! ### States, one behind the other -/
def nextB : List Bool → Bool × List Bool
  | [] => (false, [])
  | b :: r => if b = true then ((nextB r).1, false :: (nextB r).2) else (true, true :: r)
def valB : List Bool → Nat
  | [] => 0
  | b :: r => (if b = true then 1 else 0) + 2 * valB r
theorem valB_lt : ∀ l : List Bool, valB l < 2 ^ l.length
  | [] => by simp [valB]
  | b :: r => by
    have := valB_lt r
    simp only [valB, List.length_cons, Nat.pow_succ]
    split <;> omega
theorem valB_zero : ∀ n : Nat, valB (List.replicate n false) = 0
  | 0 => rfl
  | n + 1 => by rw [List.replicate_succ]; simp [valB, valB_zero n]
theorem valB_inj : ∀ {a b : List Bool}, a.length = b.length → valB a = valB b → a = b
  | [], [], _, _ => rfl
  | [], _ :: _, h, _ => by simp at h
  | _ :: _, [], h, _ => by simp at h
  | x :: a, y :: b, hl, hv => by
    simp only [valB] at hv
    have hl' : a.length = b.length := by simpa using hl
    cases x <;> cases y <;> simp at hv
    · rw [valB_inj hl' (by omega)]
    · omega
    · omega
    · rw [valB_inj hl' (by omega)]
theorem next_len : ∀ l : List Bool, (nextB l).2.length = l.length
  | [] => rfl
  | b :: r => by
    unfold nextB
    split
    · simp [next_len r]
    · rfl
theorem next_val : ∀ l : List Bool, ((nextB l).1 = true → valB (nextB l).2 = valB l + 1) ∧ ((nextB l).1 = false → valB l + 1 = 2 ^ l.length)
  | [] => ⟨fun h => (by cases h), fun _ => rfl⟩
  | b :: r => by
    obtain ⟨h1, h2⟩ := next_val r
    unfold nextB
    by_cases hb : b = true
    · rw [if_pos hb]
      subst hb
      refine ⟨fun h => ?_, fun h => ?_⟩
      · have := h1 h
        simp only [valB]
        simp
        omega
      · have := h2 h
        simp only [valB, List.length_cons, Nat.pow_succ]
        simp
        omega
    · have hb' : b = false := by simpa using hb
      subst hb'
      rw [if_neg hb]
      refine ⟨fun _ => ?_, fun h => (by cases h)⟩
      simp only [valB]
      simp
      omega
theorem next_at (st : List Bool) (k : Nat) (hk : k < st.length) (h : nextB st = ((nextB (st.drop k)).1, List.replicate k false ++ (nextB (st.drop k)).2)) :
    (st[k] = true → nextB st = ((nextB (st.drop (k + 1))).1, List.replicate (k + 1) false ++ (nextB (st.drop (k + 1))).2)) ∧ (st[k] = false → nextB st = (true, List.replicate k false ++ true :: st.drop (k + 1))) := by
  rw [List.drop_eq_getElem_cons hk] at h
  constructor
  · intro hb
    rw [hb] at h
    simp only [nextB, if_true] at h
    rw [h, List.replicate_succ']
    simp
  · intro hb
    rw [hb] at h
    simp only [nextB] at h
    rw [h]
    simp

/-! ### In memory -/
section
variable {W w : World} {C : Ast → Ast} {g n cap : Nat} {l : List Bool}
theorem bools_cells (hC : Ctx C) (h : On W w (C (boolsA (.slice (some ⟨g, 0, none⟩) n cap) l))) : (∀ j (h : j < l.length), w.cell? ⟨g, j, none⟩ = some (.bool l[j])) ∧ (∀ j, w.frozen? ⟨g, j, none⟩ = false) := by
  obtain ⟨F, ⟨b, _⟩, _⟩ := hC.use h
  obtain ⟨ao, cp, e, _, _, hf⟩ := b.form
  injection e with e1 e2 e3
  by_cases h0 : 0 < l.length
  · obtain ⟨g', off, e4, hc, hz, _⟩ := hf h0
    rw [← e1] at e4
    injection e4 with e4
    injection e4 with e5 e6
    subst e5 e6
    exact ⟨fun j hj => by have := hc j (by simpa [boC] using hj); simpa [boC, hj] using this, hz⟩
  · refine ⟨fun j hj => by omega, fun j => ?_⟩
    obtain ⟨cur, hb⟩ := b.blk (k := g) rfl
    exact hb.frozen j
theorem bools_set (hC : Ctx C) (h : On W w (C (boolsA (.slice (some ⟨g, 0, none⟩) n cap) l))) (hl : l.length = n) (j : Nat) (b : Bool) : On W (w.setCell ⟨g, j, none⟩ (.bool b)) (C (boolsA (.slice (some ⟨g, 0, none⟩) n cap) (l.set j b))) := by
  obtain ⟨F, ⟨a, e⟩, hg⟩ := hC.use h
  refine hg _ _ ⟨F, ⟨?_, e⟩, (Touch.refl _ w).setCell (fun _ => (e g).2 rfl) _, fun k hk => .inl hk⟩
  have := Own.stored (hl ▸ a) j (.bool b)
  rw [Nat.zero_add] at this
  simpa [boC, hl, List.map_set] using this
theorem bools_at (hC : Ctx C) (h : On W w (C (boolsA (.slice (some ⟨g, 0, none⟩) n cap) l))) : Bools w (some ⟨g, 0, none⟩) l := by
  obtain ⟨F, ⟨b, _⟩, _⟩ := hC.use h
  obtain ⟨ao, cp, e, hb⟩ := b.bools
  injection e with e1 _ _
  subst e1
  exact hb

set_option maxHeartbeats 1000000 in
theorem next_any (hC : Ctx C) (h : On W w (C (boolsA (.slice (some ⟨g, 0, none⟩) n cap) l))) (hl : l.length = n) (hn : n ≤ 1000000) :
    Calls Try.prog 34 #[.slice (some ⟨g, 0, none⟩) n cap] w fun e w' => e = .returned (.bool (nextB l).1) ∧ On W w' (C (boolsA (.slice (some ⟨g, 0, none⟩) n cap) (nextB l).2)) := by
  have H0 := Lib.hid h
  clear h
  go_enter Try.func34, Try.ntmps34
  go_wp2_with fail
  go_loopw [3] (fun i wr => ∃ k : Nat, k ≤ n ∧ i = .int .i64 k ∧ Hid (On W wr (C (boolsA (.slice (some ⟨g, 0, none⟩) n cap) (List.replicate k false ++ l.drop k)))) ∧ Hid (nextB l = ((nextB (l.drop k)).1, List.replicate k false ++ (nextB (l.drop k)).2))) (fun i _ => n - (intOf i).toNat)
  case atStart => exact ⟨0, by omega, rfl, by simpa using H0, Lib.hid (by simp)⟩
  case round =>
    obtain ⟨k, hk, rfl, HO, HE⟩ := hrel
    by_cases hlt : k < n
    · have hki : (k : Int) < (n : Int) := by omega
      have hkl : k < l.length := by omega
      have hlen : (List.replicate k false ++ l.drop k).length = n := by simp; omega
      obtain ⟨hc, hz⟩ := bools_cells hC HO.out
      have hck : wr.cell? ⟨g, k, none⟩ = some (.bool l[k]) := by
        rw [hc k (by omega)]
        simp
      have hzk := hz k
      obtain ⟨e1, e2⟩ := next_at l k hkl HE.out
      have hset := bools_set hC HO.out hlen k (!l[k])
      have hsl : (List.replicate k false ++ l.drop k).set k (!l[k]) = List.replicate k false ++ (!l[k]) :: l.drop (k + 1) := by
        rw [List.set_append, if_neg (by simp), show k - (List.replicate k false).length = 0 by simp]
        conv => lhs; rw [List.drop_eq_getElem_cons hkl]
        rfl
      rw [hsl] at hset
      have hcells := (bools_cells hC hset).1 k (by simp)
      simp at hcells
      generalize l[k] = b at *
      have HS := Lib.hid hset
      have HE1 := Lib.hid e1
      have HE2 := Lib.hid e2
      clear hset hsl e1 e2 HE hc hz hlen
      cases b with
      | true =>
        go_wp2_with fail
        go_roundw
        case rel =>
          refine ⟨k + 1, by omega, by go_num, Lib.hid ?_, Lib.hid (HE1.out (by first | rfl | trivial))⟩
          have := HS.out
          rw [List.replicate_succ']
          simpa using this
        case measure => simp [intOf]; omega
      | false =>
        go_wp2_with fail
        go_ret
        rw [HE2.out (by first | rfl | trivial)]
        exact ⟨rfl, HS.out⟩
    · obtain rfl : k = n := by omega
      have hE := HE.out
      rw [List.drop_of_length_le (by omega)] at hE
      simp only [nextB, List.append_nil] at hE
      have hO := HO.out
      rw [List.drop_of_length_le (by omega), List.append_nil] at hO
      have HO2 := Lib.hid hO
      have HE3 := Lib.hid hE
      clear hE HE HO hO
      go_wp2_with fail
      go_ret
      rw [HE3.out]
      exact ⟨rfl, HO2.out⟩
end

theorem all_states {n : Nat} {cl : List (List Int)} {st : List Bool} (hl : st.length = n) (h : ∀ st', st'.length = n → valB st' < valB st → holdsCl st' cl = false) (hs : holdsCl st cl = false) : ∀ st', st'.length = n → valB st' < valB st + 1 → holdsCl st' cl = false := fun st' hl' hv => by
  by_cases hlt : valB st' < valB st
  · exact h st' hl' hlt
  · rw [valB_inj (hl'.trans hl.symm) (by omega)]
    exact hs

set_option maxHeartbeats 1000000 in
theorem yes_any (n : Nat) (hn : n ≤ 12) (cl : List (List Int)) (aoc : Option Addr) (capc : Nat) (av : Nat → Option Addr) (cv : Nat → Nat) (w : World) (hc : IsRows w aoc cl av cv) (hcl : cl.length ≤ 1000000) (hll : ∀ c ∈ cl, c.length ≤ 1000000) (hI : ∀ c ∈ cl, ∀ x ∈ c, I64 x) (T : Bool) (hT : T = true ↔ ∃ st, st.length = n ∧ holdsCl st cl = true) :
    Calls Try.prog 23 #[.int .i64 n, .slice aoc cl.length capc] w fun e w' => e = .returned (.bool T) ∧ Below w.heap.size w w' := by
  have hmk : ∀ W : World, Sem.run Try.prog (Instr.makeSlice 38 (.int .i64 (n : Int)) (.int .i64 (n : Int))) W = .ok (.slice (some ⟨W.heap.size, 0, none⟩) n n) (W.alloc (.cells (madeCells #[.bool false] n) 4)) := fun W => run_make_row' 38 4 (.bool false) 1 Try.underlying38 (by kernel_rfl) rfl .i64 .i64 n (by omega) (by omega) W
  have HT := Lib.hid hT
  have HC := Lib.hid hc
  have HL := Lib.hid hll
  have HI := Lib.hid hI
  clear hT hc hll hI
  have hmk0 : n = 0 → ∀ W : World, Sem.run Try.prog (Instr.makeSlice 38 (.int .i64 0) (.int .i64 0)) W = .ok (.slice (some ⟨W.heap.size, 0, none⟩) n n) (W.alloc (.cells (madeCells #[.bool false] n) 4)) := fun h W => by
    have := hmk W
    rw [h] at this ⊢
    exact this
  have hcase : ((0 : Int) < (n : Int)) ∨ n = 0 := by omega
  rcases hcase with hd | hd
  rotate_left
  · have hmk1 := hmk0 hd
    have hd2 : ¬ (0 : Int) < (n : Int) := by omega
    clear hd hmk hmk0
    go_enter Try.func23, Try.ntmps23
    go_wp2_with fail
    have h0 : On w (w.alloc (.cells (madeCells #[.bool false] n) 4)) (Emp.and (boolsA (.slice (some ⟨w.heap.size, 0, none⟩) n n) (List.replicate n false))) := (On.start (Below.refl w.heap.size w)).new Solid.emp ((Below.refl _ _).alloc (Nat.le_refl _) _) (bools_made w n (by omega)) fun k hk => Nat.le_of_eq hk.symm
    obtain ⟨g, hg⟩ : ∃ g, g = w.heap.size := ⟨_, rfl⟩
    rw [← hg] at h0
    have H0 := Lib.hid h0
    rw [← hg]
    clear h0 hg
    have hC : Ctx fun A => Emp.and A := Ctx.id.right Solid.emp
    go_loopg [] (2 ^ n) (fun k wr => ∃ st : List Bool, Hid (st.length = n ∧ valB st + k = 2 ^ n) ∧ Hid (On w wr (Emp.and (boolsA (.slice (some ⟨g, 0, none⟩) n n) st))) ∧ Hid (∀ st', st'.length = n → valB st' < valB st → holdsCl st' cl = false))
    case atStart => exact ⟨_, Lib.hid ⟨by simp, by rw [valB_zero]; omega⟩, H0, Lib.hid (fun st' _ h => by rw [valB_zero] at h; omega)⟩
    case round =>
      obtain ⟨st, HLen, HO, HA⟩ := hrel
      have hlen := HLen.out.1
      have hbs := bools_at hC HO.out
      have HHo : Hid (Calls Try.prog 33 #[.slice (some ⟨g, 0, none⟩) n n, .slice aoc cl.length capc] wr fun e w' => e = .returned (.bool (holdsCl st cl)) ∧ wr = w') := Lib.hid (by
        have := rholds_any st (some ⟨g, 0, none⟩) n cl aoc capc av cv wr hbs (by omega) (HC.out.below HO.out.bel) hcl HL.out HI.out
        rwa [hlen] at this)
      have HNx := Lib.hid (next_any hC HO.out hlen (by omega))
      obtain ⟨v1, v2⟩ := next_val st
      have hnl := next_len st
      have HHl := Lib.hid hlen
      have HV1 := Lib.hid v1
      have HV2 := Lib.hid v2
      have HNl := Lib.hid hnl
      clear hlen hbs v1 v2 hnl
      cases hh : holdsCl st cl with
      | true =>
        rw [hh] at HHo
        have hT : T = true := HT.out.2 ⟨st, HHl.out, hh⟩
        subst hT
        clear hh HNx
        go_wp2_with (go_at_call 33; refine HHo.out.mono ?_; rintro e w' ⟨rfl, rfl⟩)
        go_ret
        exact ⟨rfl, HO.out.bel⟩
      | false =>
        rw [hh] at HHo
        have HAll := Lib.hid (all_states HHl.out HA.out hh)
        clear hh
        generalize nextB st = r at *
        obtain ⟨q, st2⟩ := r
        simp only at HNx HV1 HV2 HNl
        cases q with
        | true =>
          go_wp2_with (first
            | (go_at_call 33; refine HHo.out.mono ?_; rintro e w' ⟨rfl, rfl⟩)
            | (go_at_call 34; refine HNx.out.mono ?_; rintro e w' ⟨rfl, h3'⟩))
          go_roundg (2 ^ n - valB st2)
          case measure =>
            have h1 := HV1.out (by first | rfl | trivial)
            have h2 := HLen.out.2
            have h3 := valB_lt st
            rw [HHl.out] at h3
            omega
          case rel =>
            have h1 := HV1.out (by first | rfl | trivial)
            have h3 := valB_lt st2
            rw [HNl.out, HHl.out] at h3
            exact ⟨st2, Lib.hid ⟨HNl.out.trans HHl.out, by omega⟩, Lib.hid h3', Lib.hid (by rw [h1]; exact HAll.out)⟩
        | false =>
          have hT : T = false := by
            cases hTT : T with
            | false => rfl
            | true =>
              obtain ⟨st', hl', hs'⟩ := HT.out.1 hTT
              have h2 := HV2.out (by first | rfl | trivial)
              have h3 := valB_lt st'
              rw [hl'] at h3
              rw [HHl.out] at h2
              rw [HAll.out st' hl' (by omega)] at hs'
              cases hs'
          subst hT
          go_wp2_with (first
            | (go_at_call 33; refine HHo.out.mono ?_; rintro e w' ⟨rfl, rfl⟩)
            | (go_at_call 34; refine HNx.out.mono ?_; rintro e w' ⟨rfl, h3⟩))
          go_ret
          exact ⟨rfl, h3.bel⟩
  · clear hmk0
    go_enter Try.func23, Try.ntmps23
    go_wp2_with fail
    have h0 : On w (w.alloc (.cells (madeCells #[.bool false] n) 4)) (Emp.and (boolsA (.slice (some ⟨w.heap.size, 0, none⟩) n n) (List.replicate n false))) := (On.start (Below.refl w.heap.size w)).new Solid.emp ((Below.refl _ _).alloc (Nat.le_refl _) _) (bools_made w n (by omega)) fun k hk => Nat.le_of_eq hk.symm
    obtain ⟨g, hg⟩ : ∃ g, g = w.heap.size := ⟨_, rfl⟩
    rw [← hg] at h0
    have H0 := Lib.hid h0
    rw [← hg]
    clear h0 hg
    have hC : Ctx fun A => Emp.and A := Ctx.id.right Solid.emp
    go_loopg [] (2 ^ n) (fun k wr => ∃ st : List Bool, Hid (st.length = n ∧ valB st + k = 2 ^ n) ∧ Hid (On w wr (Emp.and (boolsA (.slice (some ⟨g, 0, none⟩) n n) st))) ∧ Hid (∀ st', st'.length = n → valB st' < valB st → holdsCl st' cl = false))
    case atStart => exact ⟨_, Lib.hid ⟨by simp, by rw [valB_zero]; omega⟩, H0, Lib.hid (fun st' _ h => by rw [valB_zero] at h; omega)⟩
    case round =>
      obtain ⟨st, HLen, HO, HA⟩ := hrel
      have hlen := HLen.out.1
      have hbs := bools_at hC HO.out
      have HHo : Hid (Calls Try.prog 33 #[.slice (some ⟨g, 0, none⟩) n n, .slice aoc cl.length capc] wr fun e w' => e = .returned (.bool (holdsCl st cl)) ∧ wr = w') := Lib.hid (by
        have := rholds_any st (some ⟨g, 0, none⟩) n cl aoc capc av cv wr hbs (by omega) (HC.out.below HO.out.bel) hcl HL.out HI.out
        rwa [hlen] at this)
      have HNx := Lib.hid (next_any hC HO.out hlen (by omega))
      obtain ⟨v1, v2⟩ := next_val st
      have hnl := next_len st
      have HHl := Lib.hid hlen
      have HV1 := Lib.hid v1
      have HV2 := Lib.hid v2
      have HNl := Lib.hid hnl
      clear hlen hbs v1 v2 hnl
      cases hh : holdsCl st cl with
      | true =>
        rw [hh] at HHo
        have hT : T = true := HT.out.2 ⟨st, HHl.out, hh⟩
        subst hT
        clear hh HNx
        go_wp2_with (go_at_call 33; refine HHo.out.mono ?_; rintro e w' ⟨rfl, rfl⟩)
        go_ret
        exact ⟨rfl, HO.out.bel⟩
      | false =>
        rw [hh] at HHo
        have HAll := Lib.hid (all_states HHl.out HA.out hh)
        clear hh
        generalize nextB st = r at *
        obtain ⟨q, st2⟩ := r
        simp only at HNx HV1 HV2 HNl
        cases q with
        | true =>
          go_wp2_with (first
            | (go_at_call 33; refine HHo.out.mono ?_; rintro e w' ⟨rfl, rfl⟩)
            | (go_at_call 34; refine HNx.out.mono ?_; rintro e w' ⟨rfl, h3'⟩))
          go_roundg (2 ^ n - valB st2)
          case measure =>
            have h1 := HV1.out (by first | rfl | trivial)
            have h2 := HLen.out.2
            have h3 := valB_lt st
            rw [HHl.out] at h3
            omega
          case rel =>
            have h1 := HV1.out (by first | rfl | trivial)
            have h3 := valB_lt st2
            rw [HNl.out, HHl.out] at h3
            exact ⟨st2, Lib.hid ⟨HNl.out.trans HHl.out, by omega⟩, Lib.hid h3', Lib.hid (by rw [h1]; exact HAll.out)⟩
        | false =>
          have hT : T = false := by
            cases hTT : T with
            | false => rfl
            | true =>
              obtain ⟨st', hl', hs'⟩ := HT.out.1 hTT
              have h2 := HV2.out (by first | rfl | trivial)
              have h3 := valB_lt st'
              rw [hl'] at h3
              rw [HHl.out] at h2
              rw [HAll.out st' hl' (by omega)] at hs'
              cases hs'
          subst hT
          go_wp2_with (first
            | (go_at_call 33; refine HHo.out.mono ?_; rintro e w' ⟨rfl, rfl⟩)
            | (go_at_call 34; refine HNx.out.mono ?_; rintro e w' ⟨rfl, h3⟩))
          go_ret
          exact ⟨rfl, h3.bel⟩

/-! ### What is enough -/
def enoughE (v : Int) : Int := if v < 0 then 0 else if 40 < v then 1099511627776 else min ((v + 1) * 2 ^ (v + 1).toNat) 1099511627776

theorem pow_big {a b : Nat} (h : a ≤ b) : (2 : Int) ^ a ≤ 2 ^ b := by
  have := Nat.pow_le_pow_right (show 0 < 2 by decide) h
  exact_mod_cast this
theorem enough_small {v : Nat} (h : v ≤ 40) : enoughE v = min (((v : Int) + 1) * 2 ^ (v + 1)) 1099511627776 := by
  unfold enoughE
  rw [if_neg (by omega), if_neg (by omega)]
  have : ((v : Int) + 1).toNat = v + 1 := by omega
  rw [this]
theorem enough_over {v k : Nat} (hk : k ≤ v + 1) (h : 1099511627776 < ((v : Int) + 1) * 2 ^ k) : enoughE v = 1099511627776 := by
  by_cases hv : v ≤ 40
  · rw [enough_small hv]
    have h1 : ((v : Int) + 1) * 2 ^ k ≤ ((v : Int) + 1) * 2 ^ (v + 1) := Int.mul_le_mul_of_nonneg_left (pow_big hk) (by omega)
    omega
  · unfold enoughE
    rw [if_neg (by omega), if_pos (by omega)]
theorem enough_end {v : Nat} (h : ((v : Int) + 1) * 2 ^ (v + 1) ≤ 2199023255552) : enoughE v = min (((v : Int) + 1) * 2 ^ (v + 1)) 1099511627776 := by
  by_cases hv : v ≤ 40
  · exact enough_small hv
  · exfalso
    have h1 : (2 : Int) ^ 42 ≤ 2 ^ (v + 1) := pow_big (by omega)
    have h2 : (1 : Int) * 2 ^ (v + 1) ≤ ((v : Int) + 1) * 2 ^ (v + 1) := Int.mul_le_mul_of_nonneg_right (by omega) (by omega)
    omega

theorem renough_any (v : Nat) (hv : v ≤ 1099511627776) (w : World) : Calls Try.prog 20 #[.int .i64 v] w fun e w' => e = .returned (.int .i64 (enoughE v)) ∧ w = w' := by
  obtain ⟨T, hT⟩ : ∃ T, T = enoughE v := ⟨_, rfl⟩
  rw [← hT]
  have HT := Lib.hid hT
  clear hT
  go_enter Try.func20, Try.ntmps20
  go_wp2_with fail
  go_loop [3, 4] (fun s i => ∃ (k : Nat) (x : Int), k ≤ v + 1 ∧ i = .int .i64 k ∧ s = .int .i64 x ∧ Hid (x = ((v : Int) + 1) * 2 ^ k) ∧ 0 ≤ x ∧ x ≤ 2199023255552) (fun _ i => v + 1 - (intOf i).toNat)
  case atStart => exact ⟨0, (v : Int) + 1, by omega, rfl, rfl, Lib.hid (by simp), by omega, by omega⟩
  case round =>
    obtain ⟨k, x, hk, rfl, rfl, HX, hx0, hx⟩ := hrel
    by_cases hlt : k < v + 1
    · have hki : (k : Int) < (v : Int) + 1 := by omega
      by_cases hbig : 1099511627776 < x
      · have hT : T = 1099511627776 := by
          rw [HT.out]
          exact enough_over hk (by rw [← HX.out]; exact hbig)
        subst hT
        go_wp2_with fail
        go_ret
        exact ⟨rfl, rfl⟩
      · have HX2 : Hid (2 * x = ((v : Int) + 1) * 2 ^ (k + 1)) := Lib.hid (by rw [HX.out, Int.pow_succ]; simp [Int.mul_comm, Int.mul_left_comm])
        go_wp2_with fail
        go_round
        case rel => exact ⟨k + 1, 2 * x, by omega, by go_num, by go_num, HX2, by omega, by omega⟩
        case measure => simp [intOf]; omega
    · obtain rfl : k = v + 1 := by omega
      have hT : T = min x 1099511627776 := by
        rw [HT.out, HX.out]
        exact enough_end (by rw [← HX.out]; exact hx)
      have HT2 := Lib.hid hT
      clear hT
      go_wp2_with fail
      all_goals
        go_ret
        rw [HT2.out]
        first
          | (rw [show min x 1099511627776 = 1099511627776 from by omega]; exact ⟨rfl, rfl⟩)
          | (rw [show min x 1099511627776 = x from by omega]; exact ⟨rfl, rfl⟩)
theorem senough_any (v : Nat) (hv : v ≤ 1099511627776) (w : World) : Calls Try.prog 18 #[.int .i64 v] w fun e w' => e = .returned (.int .i64 (enoughE v)) ∧ w = w' := by
  by_cases h40 : v ≤ 40
  · obtain ⟨x, hx⟩ : ∃ x : Int, x = ((v : Int) + 1) * 2 ^ (v + 1) := ⟨_, rfl⟩
    have hT : enoughE v = min x 1099511627776 := by rw [enough_small h40, hx]
    have h1 : (2 : Int) ^ (v + 1) ≤ 2 ^ 41 := pow_big (by omega)
    have h2 : x ≤ 41 * 2 ^ 41 := by
      rw [hx]
      exact Int.mul_le_mul (by omega) h1 (by exact_mod_cast Nat.zero_le _) (by omega)
    have h3 : 0 ≤ x := by rw [hx]; exact Int.mul_nonneg (by omega) (by exact_mod_cast Nat.zero_le _)
    have hw : wrap64 (((v : Int) + 1) * 2 ^ (v + 1)) = x := by
      rw [← hx]
      unfold wrap64
      omega
    rw [hT]
    clear hT h1 hx
    go_enter Try.func18, Try.ntmps18
    go_wp2_with fail
    all_goals
      go_ret
      first
        | (rw [show min x 1099511627776 = 1099511627776 from by omega]; exact ⟨rfl, rfl⟩)
        | (rw [show min x 1099511627776 = x from by omega]; exact ⟨rfl, rfl⟩)
  · have hT : enoughE v = 1099511627776 := by
      unfold enoughE
      rw [if_neg (by omega), if_pos (by omega)]
    rw [hT]
    have hd : decide ((40 : Int) < (v : Int)) = true := by simp; omega
    clear hT
    go_enter Try.func18, Try.ntmps18
    go_wp2_with fail
    go_ret
    exact ⟨rfl, rfl⟩
theorem senough_neg (v : Int) (hv : v < 0) (w : World) : Calls Try.prog 18 #[.int .i64 v] w fun e w' => e = .returned (.int .i64 0) ∧ w = w' := by
  have hd : decide (v < 0) = true := by simpa using hv
  go_enter Try.func18, Try.ntmps18
  go_wp2_with fail
  go_ret
  exact ⟨rfl, rfl⟩
theorem renough_neg (v : Int) (hv : v < 0) (w : World) : Calls Try.prog 20 #[.int .i64 v] w fun e w' => e = .returned (.int .i64 0) ∧ w = w' := by
  have hd : decide (v < 0) = true := by simpa using hv
  go_enter Try.func20, Try.ntmps20
  go_wp2_with fail
  go_ret
  exact ⟨rfl, rfl⟩

end Go.Proofs.Ythinopiobihmaaa

namespace Go.Proofs.Ythinopiobihmaaa
open Go.ChangeShapes Go.WideShapes Go.ChangeAt Go.RowKit Go.Maps Go.Deep
set_option maxRecDepth 100000

theorem true_sat {st : List Bool} {x : Int} (h : 1 ≤ x.natAbs ∧ x.natAbs ≤ st.length) : trueE st x = satA (fun v => st.getD v false) x := by
  unfold trueE satA
  by_cases h0 : 0 < x
  · rw [if_pos (by omega), if_pos h0]
    congr 1
    omega
  · rw [if_neg (by omega), if_pos (by omega), if_neg h0, if_pos (by omega)]
    congr 2
    omega

theorem any_congr' {α : Type} {p q : α → Bool} : ∀ {l : List α}, (∀ x ∈ l, p x = q x) → l.any p = l.any q
  | [], _ => rfl
  | x :: l, h => by rw [List.any_cons, List.any_cons, h x (List.mem_cons_self ..), any_congr' fun y hy => h y (List.mem_cons_of_mem _ hy)]

theorem holds_same {st : List Bool} {c : List Int} (h : knownS st.length c = true) : holdsC st c = holdsA (fun v => st.getD v false) c := any_congr' fun x hx => true_sat (knownS_mem h x hx)

theorem holdsA_congr {n : Nat} {A B : Nat → Bool} {c : List Int} (h : knownS n c = true) (hAB : ∀ v, v < n → A v = B v) : holdsA A c = holdsA B c := any_congr' fun x hx => by
  have := knownS_mem h x hx
  unfold satA
  rw [hAB (x.natAbs - 1) (by omega)]

theorem holdsCl_iff {st : List Bool} {cl : List (List Int)} (h : cl.all (knownS st.length) = true) : holdsCl st cl = true ↔ ∀ c ∈ cl, holdsA (fun v => st.getD v false) c = true := by
  unfold holdsCl
  rw [List.all_eq_true]
  constructor
  · intro hh c hc
    rw [← holds_same (List.all_eq_true.1 h c hc)]
    exact hh c hc
  · intro hh c hc
    rw [holds_same (List.all_eq_true.1 h c hc)]
    exact hh c hc

theorem sat_state {n : Nat} {cl : List (List Int)} (h : cl.all (knownS n) = true) : (∃ A, ∀ c ∈ cl, holdsA A c = true) ↔ ∃ st : List Bool, st.length = n ∧ holdsCl st cl = true := by
  constructor
  · rintro ⟨A, hA⟩
    refine ⟨(List.range n).map A, by simp, ?_⟩
    rw [holdsCl_iff (by simpa using h)]
    intro c hc
    rw [← hA c hc]
    refine holdsA_congr (List.all_eq_true.1 h c hc) fun v hv => ?_
    simp [List.getD_eq_getElem?_getD, hv]
  · rintro ⟨st, rfl, hs⟩
    exact ⟨_, (holdsCl_iff h).1 hs⟩

theorem solve_yes {n : Nat} {cl : List (List Int)} (h : cl.all (knownS n) = true) : (solveE n cl).yes = true ↔ ∃ st : List Bool, st.length = n ∧ holdsCl st cl = true := by
  rw [← sat_state h]
  exact (solve_ok n cl (List.all_eq_true.1 h)).2.sat

theorem solve_steps (n : Nat) {cl : List (List Int)} (h : cl.all (knownS n) = true) : ((solveE n cl).steps : Int) ≤ enoughE n ∨ 12 < n := by
  by_cases hn : n ≤ 12
  · left
    have h1 := (solve_ok n cl (List.all_eq_true.1 h)).2.steps
    have h2 : (2 : Nat) ^ (n + 1) ≤ 2 ^ 13 := Nat.pow_le_pow_right (by decide) (by omega)
    have h3 : 2 ^ n * (n + 1) ≤ (n + 1) * 2 ^ (n + 1) := by
      rw [Nat.mul_comm]
      exact Nat.mul_le_mul_left _ (Nat.pow_le_pow_right (by decide) (by omega))
    have h4 : (n + 1) * 2 ^ (n + 1) ≤ 13 * 2 ^ 13 := Nat.mul_le_mul (by omega) h2
    have h5 : enoughE n = (((n + 1) * 2 ^ (n + 1) : Nat) : Int) := by
      rw [enough_small (by omega)]
      have e : ((((n + 1) * 2 ^ (n + 1) : Nat)) : Int) = ((n : Int) + 1) * 2 ^ (n + 1) := by push_cast; rfl
      rw [← e]
      omega
    rw [h5]
    exact_mod_cast Nat.le_trans h1 h3
  · right; omega

section
variable {n : Nat} {ao : Option Addr} {cl : List (List Int)} {cap : Nat} {av : Nat → Option Addr} {cv : Nat → Nat} {w : World}
theorem solve_less (hn : n ≤ 12) (hc : IsRows w ao cl av cv) (hm : cl.length ≤ 2100) (hl : ∀ c ∈ cl, c.length ≤ 2000) (hk : cl.all (knownS n) = true) (budget : Int) (hb : budget < (solveE n cl).steps ∧ 0 ≤ budget ∧ budget ≤ 1099511627776) :
    Calls Try.prog 17 #[.int .i64 n, .slice ao cl.length cap, .int .i64 budget] w fun e w' => Below w.heap.size w w' ∧ e = .returned (.tuple #[.agg #[.bool false, .slice none 0 0, .int .i64 0, .slice none 0 0, .slice none 0 0], .int .i64 44]) := by
  have hI : ∀ c ∈ cl, ∀ x ∈ c, I64 x := fun c hc x hx => by
    have := knownS_mem (List.all_eq_true.1 hk c hc) x hx
    unfold I64
    omega
  refine (solve_any n hn ao cl cap av cv w hc hm hl hI budget (by omega)).mono ?_
  rintro e w' ⟨hb1, h | ⟨_, _, rfl⟩ | h⟩
  · rw [h.1] at hk; cases hk
  · exact ⟨hb1, rfl⟩
  · omega
end

set_option maxHeartbeats 4000000 in
theorem solve_budget (n : Nat) (hn : n ≤ 12) (v : Value) (budget : Int) (hb : budget < 0 ∨ 1099511627776 < budget) (w : World) :
    Calls Try.prog 17 #[.int .i64 n, v, .int .i64 budget] w fun e w' => Below w.heap.size w w' ∧ e = .returned (.tuple #[.agg #[.bool false, .slice none 0 0, .int .i64 0, .slice none 0 0, .slice none 0 0], .int .i64 1]) := by
  have hcase : (decide (budget < 0) = true) ∨ (decide (budget < 0) = false ∧ decide (1099511627776 < budget) = true) := by
    rcases hb with h | h
    · exact .inl (by simpa using h)
    · exact .inr ⟨by simp; omega, by simpa using h⟩
  go_enter Try.func17, Try.ntmps17
  go_wp2_with fail
  go_step3
  have h0 : On w (w.alloc (.cells (ansC false nilV 0 nilV nilV) 40)) (Emp.and (blkA w.heap.size 40 (ansC false nilV 0 nilV nilV))) := (On.start (Below.refl w.heap.size w)).new Solid.emp ((Below.refl _ _).alloc (Nat.le_refl _) _) (B := blkA w.heap.size 40 (ansC false nilV 0 nilV nilV)) ⟨Blk.new .., fun _ => Iff.rfl⟩ fun k hk => Nat.le_of_eq hk.symm
  have HN := Lib.hid (on_new (n := n) (Solid.emp.and (Solid.blkA ..)) h0 hn)
  unfold ansC nilV at HN
  obtain ⟨r, hr⟩ : ∃ r, r = w.heap.size := ⟨_, rfl⟩
  rw [← hr] at HN ⊢
  have HRg := Lib.hid (show w.heap.size ≤ r by omega)
  clear h0 hb hr
  rcases hcase with hd | ⟨hd1, hd2⟩
  all_goals
    go_wp2_with (go_at_call 25; (with_reducible refine HN.out.mono ?_); rintro e w1 ⟨x, rfl, h1⟩; have rb := blk_cells ((Ctx.id.left (Solid.wat ..)).right Solid.emp) h1; have r0 := rb.cell 0; have r1 := rb.cell 1; have r2 := rb.cell 2; have r3 := rb.cell 3; have r4 := rb.cell 4; have rf := rb.frozen; simp at r0 r1 r2 r3 r4)
    (try simp only [Exit.noGoto_ret])
    refine bodyPost_ret (results_cell2 Try.results17 _ _ r 40 _ _ rfl (blk_five rb) Try.underlying40 rfl (by kernel_rfl)) rfl ?_
    exact ⟨below_five h1.bel HRg.out, rfl⟩

end Go.Proofs.Ythinopiobihmaaa
