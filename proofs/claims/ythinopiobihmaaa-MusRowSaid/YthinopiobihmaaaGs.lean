/- The mus laws' long: items in memory. Conditions: as each theorem names them. -/
import Derived.Test.YthinopiobihmaaaGo
import Derived.Test.YthinopiobihmaaaGq
import Derived.Maps.OwnOps
import Derived.Maps.RangeWalk
import Derived.Deep.RegionHeld3
namespace Go.Proofs.Ythinopiobihmaaa
open Go.ChangeShapes Go.WideShapes Go.ChangeAt Go.RowKit Go.Maps Go.Deep
set_option maxRecDepth 100000

/-- Items in memory: each a row of clauses. -/
structure IsItems (w : World) (ai : Option Addr) (items : List (List (List Int))) (aI : Nat → Option Addr) (cI : Nat → Nat) (avI : Nat → Nat → Option Addr) (cvI : Nat → Nat → Nat) : Prop where
  rows : 0 < items.length → ∃ b off, ai = some ⟨b, off, none⟩ ∧ b < w.heap.size ∧ ∀ j (h : j < items.length), w.cell? ⟨b, off + j, none⟩ = some (.slice (aI j) items[j].length (cI j))
  item : ∀ j (h : j < items.length), IsRows w (aI j) items[j] (avI j) (cvI j)
theorem IsItems.below {w w' : World} {ai : Option Addr} {items : List (List (List Int))} {aI : Nat → Option Addr} {cI : Nat → Nat} {avI : Nat → Nat → Option Addr} {cvI : Nat → Nat → Nat} (h : IsItems w ai items aI cI avI cvI) (hb : Below w.heap.size w w') : IsItems w' ai items aI cI avI cvI := by
  refine ⟨fun h0 => ?_, fun j hj => (h.item j hj).below hb⟩
  obtain ⟨b, off, e, hbl, hc⟩ := h.rows h0
  exact ⟨b, off, e, Nat.lt_of_lt_of_le hbl hb.size, fun j hj => (World.cell?_of_block (w := w) (hb.block b hbl)).trans (hc j hj)⟩

def longC (cl : List (List Int)) : Bool := cl.any fun c => decide (40 < c.length)
def longI (items : List (List (List Int))) : Bool := items.any fun it => decide (20 < it.length) || longC it
def longM (vars : Int) (base : List (List Int)) (items : List (List (List Int))) : Bool := decide (9 < vars) || decide (60 < base.length) || decide (24 < items.length) || longC base || longI items
theorem longC_drop {cl : List (List Int)} {k : Nat} (h : k < cl.length) : longC (cl.drop k) = (decide (40 < cl[k].length) || longC (cl.drop (k + 1))) := by
  rw [List.drop_eq_getElem_cons h]
  rfl
theorem longI_drop {items : List (List (List Int))} {k : Nat} (h : k < items.length) : longI (items.drop k) = (decide (20 < items[k].length) || longC items[k] || longI (items.drop (k + 1))) := by
  rw [List.drop_eq_getElem_cons h]
  rfl
theorem longM_no {vars : Int} {base : List (List Int)} {items : List (List (List Int))} (h : longM vars base items = false) :
    vars ≤ 9 ∧ base.length ≤ 60 ∧ items.length ≤ 24 ∧ (∀ c ∈ base, c.length ≤ 40) ∧ ∀ it ∈ items, it.length ≤ 20 ∧ ∀ c ∈ it, c.length ≤ 40 := by
  unfold longM longC longI longC at h
  simp only [Bool.or_eq_false_iff, decide_eq_false_iff_not, List.any_eq_false, Bool.or_eq_true, decide_eq_true_eq, List.any_eq_true, not_or, not_exists, not_and] at h
  obtain ⟨⟨⟨⟨h1, h2⟩, h3⟩, h4⟩, h5⟩ := h
  refine ⟨by omega, by omega, by omega, fun c hc => by have := h4 c hc; omega, fun it hit => ⟨by have := (h5 it hit).1; omega, fun c hc => by have := (h5 it hit).2 c hc; omega⟩⟩

set_option maxHeartbeats 2000000 in
theorem long_any (vars : Int) (base : List (List Int)) (items : List (List (List Int))) (ab ai : Option Addr) (cb ci : Nat) (av : Nat → Option Addr) (cv : Nat → Nat) (aI : Nat → Option Addr) (cI : Nat → Nat) (avI : Nat → Nat → Option Addr) (cvI : Nat → Nat → Nat) (w : World)
    (hR : IsRows w ab base av cv) (hI : IsItems w ai items aI cI avI cvI) :
    Calls Try.prog 9 #[.int .i64 vars, .slice ab base.length cb, .slice ai items.length ci] w fun e w' => e = .returned (.bool (longM vars base items)) ∧ w = w' := by
  obtain ⟨T, hT⟩ : ∃ T, T = longM vars base items := ⟨_, rfl⟩
  rw [← hT]
  have HR := Lib.hid hR
  have HI := Lib.hid hI
  clear hR hI
  by_cases hbig : decide (9 < vars) = true ∨ decide (60 < base.length) = true ∨ decide (24 < items.length) = true
  · obtain rfl : T = true := by
      rw [hT]
      unfold longM
      rcases hbig with h | h | h <;> rw [h] <;> simp
    clear hT
    have hcase : decide (9 < vars) = true ∨ (decide (9 < vars) = false ∧ decide ((60 : Int) < (base.length : Int)) = true) ∨ (decide (9 < vars) = false ∧ decide ((60 : Int) < (base.length : Int)) = false ∧ decide ((24 : Int) < (items.length : Int)) = true) := by
      simp only [decide_eq_true_eq, decide_eq_false_iff_not] at hbig ⊢
      omega
    clear hbig
    rcases hcase with h1 | ⟨h1, h2⟩ | ⟨h1, h2, h3⟩
    all_goals
      go_enter Try.func9, Try.ntmps9
      go_wp2_with fail
      go_ret
      exact ⟨rfl, rfl⟩
  · have hv : decide (9 < vars) = false := by simp only [decide_eq_true_eq, decide_eq_false_iff_not] at hbig ⊢; omega
    have hb : base.length ≤ 60 := by simp only [decide_eq_true_eq] at hbig; omega
    have hi : items.length ≤ 24 := by simp only [decide_eq_true_eq] at hbig; omega
    have hb2 : decide ((60 : Int) < (base.length : Int)) = false := by simp; omega
    have hi2 : decide ((24 : Int) < (items.length : Int)) = false := by simp; omega
    have hTe : T = (longC base || longI items) := by
      rw [hT]
      unfold longM
      rw [hv, show decide (60 < base.length) = false by simp; omega, show decide (24 < items.length) = false by simp; omega]
      rfl
    have HT := Lib.hid hTe
    clear hT hTe hbig
    go_enter Try.func9, Try.ntmps9
    go_wp2_with fail
    go_loop [7] (fun i => ∃ k : Nat, k ≤ base.length ∧ i = .int .i64 k ∧ Hid (T = (longC (base.drop k) || longI items))) (fun i => base.length - (intOf i).toNat)
    case atStart => exact ⟨0, by omega, rfl, HT⟩
    case round =>
      obtain ⟨k, hk, rfl, HK⟩ := hrel
      by_cases hlt : k < base.length
      · have hki : (k : Int) < (base.length : Int) := by omega
        obtain ⟨b, off, rfl, _, hcells⟩ := HR.out.rows (by omega)
        have hck := hcells k hlt
        have hTk := HK.out
        rw [longC_drop hlt] at hTk
        obtain ⟨m, hm⟩ : ∃ m : Nat, m = base[k].length := ⟨_, rfl⟩
        rw [← hm] at hck hTk
        clear hcells hm HK
        by_cases h40 : 40 < m
        · have hd : decide ((40 : Int) < (m : Int)) = true := by simp; omega
          obtain rfl : T = true := by rw [hTk]; simp [h40]
          clear hTk h40 HT
          go_wp2_with fail
          go_ret
          exact ⟨rfl, rfl⟩
        · have hd : decide ((40 : Int) < (m : Int)) = false := by simp; omega
          have HK2 := Lib.hid (show T = (longC (base.drop (k + 1)) || longI items) by rw [hTk]; simp [h40])
          clear hTk h40
          go_wp2_with fail
          go_round
          case rel => exact ⟨k + 1, by omega, by go_num, HK2⟩
          case measure => simp [intOf]; omega
      · obtain rfl : k = base.length := by omega
        have HJ := Lib.hid (show T = longI (items.drop 0) by rw [HK.out, List.drop_length]; rfl)
        clear HK HT
        go_wp2_with fail
        go_loop [8] (fun i => ∃ k : Nat, k ≤ items.length ∧ i = .int .i64 k ∧ Hid (T = longI (items.drop k))) (fun i => items.length - (intOf i).toNat)
        case atStart => exact ⟨0, by omega, rfl, HJ⟩
        case round =>
          obtain ⟨j, hj, rfl, HK⟩ := hrel
          by_cases hjt : j < items.length
          · have hji : (j : Int) < (items.length : Int) := by omega
            obtain ⟨b, off, rfl, _, hcells⟩ := HI.out.rows (by omega)
            have hcj := hcells j hjt
            have hRj := HI.out.item j hjt
            have hTk := HK.out
            rw [longI_drop hjt] at hTk
            obtain ⟨it, hit⟩ : ∃ it, it = items[j] := ⟨_, rfl⟩
            rw [← hit] at hcj hTk hRj
            have HRj := Lib.hid hRj
            clear hcells hit HK hRj
            by_cases h20 : 20 < it.length
            · have hd : decide ((20 : Int) < (it.length : Int)) = true := by simp; omega
              obtain rfl : T = true := by rw [hTk]; simp [h20]
              clear hTk h20 HJ
              go_wp2_with fail
              go_ret
              exact ⟨rfl, rfl⟩
            · have hd : decide ((20 : Int) < (it.length : Int)) = false := by simp; omega
              have hle : it.length ≤ 20 := by omega
              have HK2 := Lib.hid (show T = (longC (it.drop 0) || longI (items.drop (j + 1))) by rw [hTk]; simp [h20])
              clear hTk h20
              go_wp2_with fail
              go_loop [9] (fun i => ∃ q : Nat, q ≤ it.length ∧ i = .int .i64 q ∧ Hid (T = (longC (it.drop q) || longI (items.drop (j + 1))))) (fun i => it.length - (intOf i).toNat)
              case atStart => exact ⟨0, by omega, rfl, HK2⟩
              case round =>
                obtain ⟨q, hq, rfl, HQ⟩ := hrel
                by_cases hqt : q < it.length
                · have hqi : (q : Int) < (it.length : Int) := by omega
                  obtain ⟨b2, off2, e2, _, hcells⟩ := HRj.out.rows (by omega)
                  rw [e2] at hcj
                  have hcq := hcells q hqt
                  have hTq := HQ.out
                  rw [longC_drop hqt] at hTq
                  obtain ⟨m, hm⟩ : ∃ m : Nat, m = it[q].length := ⟨_, rfl⟩
                  rw [← hm] at hcq hTq
                  clear hcells hm HQ
                  by_cases h40 : 40 < m
                  · have hd : decide ((40 : Int) < (m : Int)) = true := by simp; omega
                    obtain rfl : T = true := by rw [hTq]; simp [h40]
                    clear hTq h40 HJ HK2
                    go_wp2_with fail
                    go_ret
                    exact ⟨rfl, rfl⟩
                  · have hd : decide ((40 : Int) < (m : Int)) = false := by simp; omega
                    have HQ2 := Lib.hid (show T = (longC (it.drop (q + 1)) || longI (items.drop (j + 1))) by rw [hTq]; simp [h40])
                    clear hTq h40
                    go_wp2_with fail
                    go_round
                    case rel => exact ⟨q + 1, by omega, by go_num, HQ2⟩
                    case measure => simp [intOf]; omega
                · obtain rfl : q = it.length := by omega
                  have HK3 := Lib.hid (show T = longI (items.drop (j + 1)) by rw [HQ.out, List.drop_length]; rfl)
                  clear HQ HK2
                  go_wp2_with fail
                  go_round
                  case rel => exact ⟨j + 1, by omega, by go_num, HK3⟩
                  case measure => simp [intOf]; omega
          · obtain rfl : j = items.length := by omega
            obtain rfl : T = false := by rw [HK.out, List.drop_length]; rfl
            clear HK HJ
            go_wp2_with fail
            go_ret
            exact ⟨rfl, rfl⟩

end Go.Proofs.Ythinopiobihmaaa

namespace Go.Proofs.Ythinopiobihmaaa
open Go.ChangeShapes Go.WideShapes Go.ChangeAt Go.RowKit Go.Maps Go.Deep
set_option maxRecDepth 100000

/-! ### Maps -/
theorem mkeyI (x : Int) : WideAt.IsKeyLit (.int .i64 x) := by simp [WideAt.IsKeyLit]
theorem mowns_isMap {R : Value → Option (DataW Unit × List MemPlace)} {w : World} {b n : Nat} {D : DataW Unit} (h : w.ownsMap Try.prog 3 R b n D) : IsMap D := by
  obtain ⟨es, clock, _, _, _, hD⟩ := h
  exact ⟨_, hD⟩
theorem wf_nat {k : Nat} (h : k ≤ 1000000) : (Lit.int .i64 (k : Int)).wf = true := by
  simp [Lit.wf, IntKind.min, IntKind.max, IntKind.signed, IntKind.bits]
  omega
theorem key_nat {k : Nat} (h : k ≤ 1000000) : keyOf Try.prog 3 (.int .i64 (k : Int)) = some (.int .i64 (k : Int)) := keyOf_int_mk Try.underlying3 (wf_nat h)

/-- At bo lies of each clause its item. -/
def OfAt (w : World) (bo : Nat) (O : List (Option Nat)) : Prop :=
  ∃ (m : Nat) (D : DataW Unit), w.ownsMap Try.prog 3 (plainElem Try.prog 3) bo m D ∧ m ≤ O.length ∧ (∀ k : Nat, Maps.has D (.int .i64 (k : Int)) = (O.getD k none).isSome) ∧
    ∀ k i : Nat, O.getD k none = some i → ∀ zd, D.atKey (.int .i64 (k : Int)) zd = .lit (.int .i64 (i : Int))
theorem getD_repl (n k : Nat) : (List.replicate n (none : Option Nat)).getD k none = none := by
  rw [List.getD_eq_getElem?_getD, List.getElem?_replicate]
  split <;> rfl
theorem of_new (w : World) (n : Nat) : OfAt (w.alloc (.map #[] 0)) w.heap.size (List.replicate n none) :=
  ⟨0, .map [], World.ownsMap_made w _ _ _, Nat.zero_le _, fun k => by rw [getD_repl]; simp [Maps.has], fun k i h => by rw [getD_repl] at h; cases h⟩
theorem OfAt.kept {w w' : World} {bo : Nat} {O : List (Option Nat)} {row : Option Nat} (h : OfAt w bo O) (hg : w.grownBy w' row) (hne : some bo ≠ row) : OfAt w' bo O := by
  obtain ⟨m, D, h1, h2⟩ := h
  exact ⟨m, D, h1.kept hg hne, h2⟩
theorem OfAt.lt {w : World} {bo : Nat} {O : List (Option Nat)} (h : OfAt w bo O) : bo < w.heap.size := by
  obtain ⟨m, D, h1, _⟩ := h
  exact h1.lt
theorem OfAt.below {w w' : World} {bo : Nat} {O : List (Option Nat)} (h : OfAt w bo O) (hb : Below w.heap.size w w') : OfAt w' bo O :=
  h.kept (row := none) ⟨hb.os, hb.tape, hb.output, hb.size, fun k hk _ => hb.block k hk⟩ (by simp)
theorem OfAt.touch {w w' : World} {bo : Nat} {O : List (Option Nat)} {F : Nat → Prop} (h : OfAt w bo O) (ht : Touch F w w') (hF : ¬ F bo) : OfAt w' bo O := by
  have hl := h.lt
  obtain ⟨m, D, ⟨es, clock, hb, r⟩, h2⟩ := h
  exact ⟨m, D, ⟨es, clock, (ht.block bo hl hF).trans hb, r⟩, h2⟩
theorem OfAt.ne_own {w : World} {bo : Nat} {O : List (Option Nat)} {e : TypeId} {s n : Nat} {v : Value} {xs : List Value} (h : OfAt w bo O) (ho : Own w e s v n xs) : some bo ≠ v.ownBlock := by
  intro e1
  obtain ⟨cur, hb⟩ := ho.blk e1.symm
  obtain ⟨m, D, ⟨es, clock, hm, _⟩, _⟩ := h
  unfold Blk at hb
  rw [hm] at hb
  cases hb
theorem OfAt.ne_blk {w : World} {bo g : Nat} {O : List (Option Nat)} {t : TypeId} {cs : Array Value} (h : OfAt w bo O) (hb : Blk w g t cs) : bo ≠ g := by
  rintro rfl
  obtain ⟨m, D, ⟨es, clock, hm, _⟩, _⟩ := h
  unfold Blk at hb
  rw [hm] at hb
  cases hb
theorem of_put {w' : World} {bo m i k : Nat} {O : List (Option Nat)} {D : DataW Unit} (hD : IsMap D) (hk : k = O.length) (h : w'.ownsMap Try.prog 3 (plainElem Try.prog 3) bo (m + 1) (D.put (.int .i64 (k : Int)) (.lit (.int .i64 (i : Int))))) (hm : m ≤ O.length)
    (h1 : ∀ k : Nat, Maps.has D (.int .i64 (k : Int)) = (O.getD k none).isSome) (h2 : ∀ k i : Nat, O.getD k none = some i → ∀ zd, D.atKey (.int .i64 (k : Int)) zd = .lit (.int .i64 (i : Int))) : OfAt w' bo (O ++ [some i]) := by
  subst hk
  have hgetD : ∀ j : Nat, (O ++ [some i]).getD j none = if j = O.length then some i else O.getD j none := fun j => by
    by_cases hj : j < O.length
    · rw [if_neg (by omega), List.getD_eq_getElem?_getD, List.getElem?_append_left hj, ← List.getD_eq_getElem?_getD]
    · by_cases hj2 : j = O.length
      · subst hj2
        simp [List.getD_eq_getElem?_getD]
      · rw [if_neg hj2, List.getD_eq_getElem?_getD, List.getElem?_eq_none (by simp; omega), List.getD_eq_getElem?_getD, List.getElem?_eq_none (by omega)]
  refine ⟨m + 1, _, h, by simp; omega, fun j => ?_, fun j x hj zd => ?_⟩
  · rw [hgetD]
    by_cases hj : j = O.length
    · subst hj
      rw [if_pos rfl, has_put_same hD (mkeyI _)]
      rfl
    · rw [if_neg hj, has_put_other (by simp; omega), h1]
  · rw [hgetD] at hj
    by_cases hj2 : j = O.length
    · subst hj2
      rw [if_pos rfl] at hj
      injection hj with hj
      subst hj
      exact atKey_put_same hD (mkeyI _) _ _
    · rw [if_neg hj2] at hj
      rw [atKey_put_other (by intro e; injection e with _ e; omega)]
      exact h2 j x hj zd

/-- At bm lies which of n items are in. -/
def InAt (w : World) (bm n : Nat) (S : Nat → Bool) : Prop :=
  ∃ (m : Nat) (D : DataW Unit), w.ownsMap Try.prog 3 unitElem bm m D ∧ m ≤ n ∧ ∀ k : Nat, k < n → Maps.has D (.int .i64 (k : Int)) = S k
theorem in_new (w : World) (n : Nat) : InAt (w.alloc (.map #[] 0)) w.heap.size n (fun _ => false) :=
  ⟨0, .map [], World.ownsMap_made w _ _ _, Nat.zero_le _, fun k _ => by simp [Maps.has]⟩
theorem InAt.lt {w : World} {bm n : Nat} {S : Nat → Bool} (h : InAt w bm n S) : bm < w.heap.size := by
  obtain ⟨m, D, h1, _⟩ := h
  exact h1.lt
theorem InAt.touch {w w' : World} {bm n : Nat} {S : Nat → Bool} {F : Nat → Prop} (h : InAt w bm n S) (ht : Touch F w w') (hF : ¬ F bm) : InAt w' bm n S := by
  have hl := h.lt
  obtain ⟨m, D, ⟨es, clock, hb, r⟩, h2⟩ := h
  exact ⟨m, D, ⟨es, clock, (ht.block bm hl hF).trans hb, r⟩, h2⟩
theorem InAt.below {w w' : World} {bm n : Nat} {S : Nat → Bool} (h : InAt w bm n S) (hb : Below w.heap.size w w') : InAt w' bm n S := h.touch (Touch.of_below hb (fun _ => False)) (fun f => f)
theorem InAt.ne_blk {w : World} {bm n g : Nat} {S : Nat → Bool} {t : TypeId} {cs : Array Value} (h : InAt w bm n S) (hb : Blk w g t cs) : bm ≠ g := by
  rintro rfl
  obtain ⟨m, D, ⟨es, clock, hm, _⟩, _⟩ := h
  unfold Blk at hb
  rw [hm] at hb
  cases hb
theorem int_ne {j k : Nat} (h : ¬ j = k) : (Lit.int .i64 (j : Int)) ≠ .int .i64 (k : Int) := by
  intro e
  injection e with _ e
  omega
theorem in_put {w' : World} {bm m n k : Nat} {S : Nat → Bool} {D : DataW Unit} {u : DataW Unit} (hD : IsMap D) (h : w'.ownsMap Try.prog 3 unitElem bm (m + 1) (D.put (.int .i64 (k : Int)) u)) (hm : m + 1 ≤ n)
    (h1 : ∀ k : Nat, k < n → Maps.has D (.int .i64 (k : Int)) = S k) : InAt w' bm n (fun j => decide (j = k) || S j) := by
  refine ⟨m + 1, _, h, hm, fun j hj => ?_⟩
  by_cases hjk : j = k
  · subst hjk
    rw [has_put_same hD (mkeyI _)]
    simp
  · rw [has_put_other (int_ne hjk), h1 j hj]
    simp [hjk]
theorem in_del {w' : World} {bm m n k : Nat} {S : Nat → Bool} {D : DataW Unit} (h : w'.ownsMap Try.prog 3 unitElem bm m (D.del (.int .i64 (k : Int)))) (hm : m ≤ n)
    (h1 : ∀ k : Nat, k < n → Maps.has D (.int .i64 (k : Int)) = S k) : InAt w' bm n (askS S k) := by
  refine ⟨m, _, h, hm, fun j hj => ?_⟩
  unfold askS
  by_cases hjk : j = k
  · subst hjk
    rw [has_del_same]
    simp
  · rw [has_del_other (int_ne hjk), h1 j hj]
    simp [hjk]

/-! ### Clauses as they are put together -/
structure ClAt (w0 wr : World) (a : Option Addr) (n c : Nat) (cl : List (List Int)) : Prop where
  len : n = cl.length
  own : ∃ vals, Own wr 26 1 (.slice a n c) n vals ∧ RowsV w0 vals cl
  new : ∀ k, (Value.slice a n c).ownBlock = some k → w0.heap.size ≤ k
theorem ClAt.below {w0 wr w' : World} {a : Option Addr} {n c : Nat} {cl : List (List Int)} (h : ClAt w0 wr a n c cl) (hb : Below wr.heap.size wr w') : ClAt w0 w' a n c cl := by
  obtain ⟨vals, ho, hv⟩ := h.own
  exact ⟨h.len, ⟨vals, ho.new hb, hv⟩, h.new⟩
theorem ClAt.grown {w0 wr w' : World} {a : Option Addr} {n c : Nat} {cl : List (List Int)} {row : Option Nat} (h : ClAt w0 wr a n c cl) (hg : wr.grownBy w' row) (hr : (Value.slice a n c).ownBlock = none ∨ (Value.slice a n c).ownBlock ≠ row) : ClAt w0 w' a n c cl := by
  obtain ⟨vals, ho, hv⟩ := h.own
  exact ⟨h.len, ⟨vals, ho.grown hg hr, hv⟩, h.new⟩
theorem ClAt.rows {w0 wr : World} {a : Option Addr} {n c : Nat} {cl : List (List Int)} (h : ClAt w0 wr a n c cl) (hb : Below w0.heap.size w0 wr) : ∃ av cv, IsRows wr a cl av cv := by
  obtain ⟨vals, ho, hv⟩ := h.own
  have hv2 := hv.below hb
  have e : n = vals.length := by rw [hv.1, h.len]
  exact rows_at ho e hv2
/-- One clause more, behind an append. -/
theorem ClAt.snoc {w0 w1 w2 : World} {a a2 : Option Addr} {n c c2 cap : Nat} {cl : List (List Int)} {ao : Option Addr} {d : List Int} {o : Obj} {vals : List Value} (hl : n = cl.length) (hv : RowsV w0 vals cl) (hn : ∀ k, (Value.slice a n c).ownBlock = some k → w0.heap.size ≤ k) (hd : Ints w0 ao d)
    (hb : Below w0.heap.size w0 w1) (ho : Own w2 26 1 (.slice a2 (n + 1) c2) (n + 1) (vals ++ [.slice ao d.length cap])) (hg : (w1.alloc o).grownBy w2 (Value.slice a n c).ownBlock) (hat : (Value.slice a2 (n + 1) c2).ownBlock = (Value.slice a n c).ownBlock ∨ (Value.slice a2 (n + 1) c2).ownBlock = some (w1.alloc o).heap.size) :
    ClAt w0 w2 a2 (n + 1) c2 (cl ++ [d]) ∧ Below w0.heap.size w0 w2 := by
  have h := out_snoc hb hn hg hat
  exact ⟨⟨by rw [hl, List.length_append]; rfl, ⟨_, ho, hv.snoc hd⟩, h.1⟩, h.2⟩

theorem upto_mono {base : List (List Int)} {items : List (List (List Int))} {S : Nat → Bool} {k k' : Nat} (h : k ≤ k') : (uptoE base items S k).length ≤ (uptoE base items S k').length := by
  obtain ⟨d, rfl⟩ : ∃ d, k' = k + d := ⟨k' - k, by omega⟩
  clear h
  induction d with
  | zero => exact Nat.le_refl _
  | succ d ih =>
    refine Nat.le_trans ih ?_
    rw [show k + (d + 1) = (k + d) + 1 by omega, upto_succ, List.length_append]
    omega
theorem six_cells {w : World} {g : Nat} {t : TypeId} {a b c d e f : Value} (h : Blk w g t #[a, b, c, d, e, f]) : (w.cell? ⟨g, 0, none⟩ = some a ∧ w.cell? ⟨g, 1, none⟩ = some b ∧ w.cell? ⟨g, 2, none⟩ = some c) ∧ w.cell? ⟨g, 3, none⟩ = some d ∧ w.cell? ⟨g, 4, none⟩ = some e ∧ w.cell? ⟨g, 5, none⟩ = some f :=
  ⟨⟨h.cell 0, h.cell 1, h.cell 2⟩, h.cell 3, h.cell 4, h.cell 5⟩

theorem isRows_vals {w : World} {ao : Option Addr} {cl : List (List Int)} {av : Nat → Option Addr} {cv : Nat → Nat} (h : IsRows w ao cl av cv) : RowsV w (rowVals cl av cv) cl := ⟨vals_len _ _ _, fun j hj => ⟨av j, cv j, by simp [rowVals, hj], h.ints j hj⟩⟩

/-- Five cells of new memory written. -/
theorem five_put {a w : World} {q : Nat} {z0 z1 z2 z3 z4 : Value} (h : Blk w q 40 #[z0, z1, z2, z3, z4]) (hq : a.heap.size ≤ q) (hb : Below a.heap.size a w) (v0 v1 v2 v3 v4 : Value) :
    ∃ w', w' = ((((w.setCell ⟨q, 0, none⟩ v0).setCell ⟨q, 1, none⟩ v1).setCell ⟨q, 2, none⟩ v2).setCell ⟨q, 3, none⟩ v3).setCell ⟨q, 4, none⟩ v4 ∧ Blk w' q 40 #[v0, v1, v2, v3, v4] ∧ Below a.heap.size a w' ∧ Touch (fun k => k = q) w w' := by
  refine ⟨_, rfl, ?_, ?_, ?_⟩
  · have h5 := ((((h.set_ 0 v0).set_ 1 v1).set_ 2 v2).set_ 3 v3).set_ 4 v4
    have e : (((((#[z0, z1, z2, z3, z4] : Array Value).setIfInBounds 0 v0).setIfInBounds 1 v1).setIfInBounds 2 v2).setIfInBounds 3 v3).setIfInBounds 4 v4 = #[v0, v1, v2, v3, v4] := by
      apply Array.ext'
      simp
    rw [e] at h5
    exact h5
  · exact bel_setCell (bel_setCell (bel_setCell (bel_setCell (bel_setCell hb hq _) hq _) hq _) hq _) hq _
  · have t0 : Touch (fun k => k = q) w w := Touch.refl _ w
    have t1 := t0.setCell (p := ⟨q, 0, none⟩) (fun _ => rfl) v0
    have t2 := t1.setCell (p := ⟨q, 1, none⟩) (fun _ => rfl) v1
    have t3 := t2.setCell (p := ⟨q, 2, none⟩) (fun _ => rfl) v2
    have t4 := t3.setCell (p := ⟨q, 3, none⟩) (fun _ => rfl) v3
    exact t4.setCell (p := ⟨q, 4, none⟩) (fun _ => rfl) v4
theorem five_below {a w : World} {q : Nat} (hq : a.heap.size ≤ q) (hb : Below a.heap.size a w) (v0 v1 v2 v3 v4 : Value) : Below a.heap.size a (((((w.setCell ⟨q, 0, none⟩ v0).setCell ⟨q, 1, none⟩ v1).setCell ⟨q, 2, none⟩ v2).setCell ⟨q, 3, none⟩ v3).setCell ⟨q, 4, none⟩ v4) :=
  bel_setCell (bel_setCell (bel_setCell (bel_setCell (bel_setCell hb hq _) hq _) hq _) hq _) hq _

theorem AnsAt.touch {W w w' : World} {A : Ans} {sv fv lv : Value} {F : Nat → Prop} (h : AnsAt W w A sv fv lv) (ht : Touch F w w') (hF : ∀ k, W.heap.size ≤ k → ¬ F k) : AnsAt W w' A sv fv lv := by
  obtain ⟨vals, ho, hn, hr⟩ := h.bonds
  refine ⟨h.state.touch ht fun k hk => hF k (h.stateNew k hk), h.stateNew, ⟨vals, ho.touch ht fun k hk => hF k (hn k hk), hn, fun j hj => ?_⟩, h.last.touch ht fun k hk => hF k (h.lastNew k hk), h.lastNew⟩
  obtain ⟨u, hu, ho2, hn2⟩ := hr j hj
  exact ⟨u, hu, ho2.touch ht fun k hk => hF k (hn2 k hk), hn2⟩
theorem blk5 {w : World} {g : Nat} {t : TypeId} {a b c d e : Value} (h : Blk w g t #[a, b, c, d, e]) : (w.cell? ⟨g, 0, none⟩ = some a ∧ w.cell? ⟨g, 1, none⟩ = some b ∧ w.cell? ⟨g, 2, none⟩ = some c) ∧ w.cell? ⟨g, 3, none⟩ = some d ∧ w.cell? ⟨g, 4, none⟩ = some e :=
  ⟨⟨h.cell 0, h.cell 1, h.cell 2⟩, h.cell 3, h.cell 4⟩

/-! ### What search.no tells -/
/-- A set but for one (-1: none). -/
def askB (S : Nat → Bool) (but : Int) : Nat → Bool := fun j => S j && !decide ((j : Int) = but)
/-- On which items a no rests, as its bonds tell. -/
def restsOf (O : List (Option Nat)) (L : List Int) (i : Nat) : Bool := L.any fun x => decide (O.getD x.toNat none = some i)
def SolOut (A : Ans) (er : Int) (W : World) (e : Ending) (W' : World) : Prop :=
  Below W.heap.size W W' ∧ ∃ a1 c1 a2 c2 a3 c3, e = .returned (.tuple #[.agg (ansV A a1 c1 a2 c2 a3 c3), .int .i64 er]) ∧ (er = 0 → AnsAt W W' A (.slice a1 A.state.length c1) (.slice a2 A.bonds.length c2) (.slice a3 A.last.length c3))
def boR (R : Nat → Bool) (n : Nat) : List Value := (List.range n).map fun i => .bool (R i)
theorem rests_snoc (O : List (Option Nat)) (L : List Int) (x : Int) (i : Nat) : restsOf O (L ++ [x]) i = (restsOf O L i || decide (O.getD x.toNat none = some i)) := by
  unfold restsOf
  rw [List.any_append]
  simp
theorem boR_len (R : Nat → Bool) (n : Nat) : (boR R n).length = n := by simp [boR]
theorem boR_none (O : List (Option Nat)) (n : Nat) : boR (restsOf O []) n = List.replicate n (.bool false) := by
  apply List.ext_getElem
  · simp [boR]
  · intro i h1 h2
    simp [boR, restsOf]
theorem boR_made (O : List (Option Nat)) (n : Nat) : madeCells #[Value.bool false] n = (boR (restsOf O []) n).toArray := by
  have h := toList_madeCells_one (.bool false) n
  rw [boR_none, ← h]
theorem boR_same {R R' : Nat → Bool} (n : Nat) (h : ∀ i, i < n → R' i = R i) : boR R' n = boR R n := by
  unfold boR
  refine List.map_congr_left fun i hi => ?_
  rw [h i (List.mem_range.1 hi)]
theorem boR_set {R R' : Nat → Bool} (n k : Nat) (_hk : k < n) (h : ∀ i, i < n → R' i = (R i || decide (k = i))) : (boR R n).toArray.setIfInBounds k (.bool true) = (boR R' n).toArray := by
  apply Array.ext'
  rw [Array.toList_setIfInBounds]
  apply List.ext_getElem
  · simp [boR]
  · intro i h1 h2
    have hi : i < n := by simpa [boR] using h2
    by_cases hik : k = i
    · subst hik
      simp [boR, h k hi]
    · simp only
      rw [List.getElem_set_ne hik]
      simp [boR, h i hi, hik]
theorem owners_lt {base : List (List Int)} {items : List (List (List Int))} {T : Nat → Bool} {k y i : Nat} (h : (ownersE base items T k).getD y none = some i) : i < k := by
  by_cases hy : y < (uptoE base items T k).length
  · rcases owner_spec (S := T) k y hy with h1 | ⟨i2, h1, _, h2, _⟩
    · rw [h1.1] at h; cases h
    · rw [h2] at h
      injection h with h
      omega
  · rw [← owners_len, Nat.not_lt] at hy
    rw [List.getD_eq_getElem?_getD, List.getElem?_eq_none hy] at h
    cases h
/-- What search.no leaves: refused; a yes; a no. -/
def NoPost (w : World) (g n : Nat) (er : Int) (A : Ans) (cs : Int → Value → Array Value) (left : Int) (rv : Value) (R : Nat → Bool) (e : Ending) (w' : World) : Prop :=
  (er ≠ 0 ∧ e = .returned (.tuple #[.bool false, .int .i64 er]) ∧ Below w.heap.size w w') ∨
  (er = 0 ∧ A.yes = true ∧ e = .returned (.tuple #[.bool false, .int .i64 0]) ∧ Touch (fun k => k = g) w w' ∧ Blk w' g 51 (cs (left - A.steps) rv)) ∨
  (er = 0 ∧ A.yes = false ∧ e = .returned (.tuple #[.bool true, .int .i64 0]) ∧ Touch (fun k => k = g) w w' ∧ ∃ gr, w.heap.size ≤ gr ∧ Blk w' g 51 (cs (left - A.steps) (.slice (some ⟨gr, 0, none⟩) n n)) ∧ Blk w' gr 4 (boR R n).toArray)

end Go.Proofs.Ythinopiobihmaaa
