/- The document's Deps over equal lists; the plain law of what is counted. Conditions: as each theorem names them. -/
import Derived.Test.YtadogjnoklabdaaDoorH28
import Derived.Test.YtadogjnoklabdaaDoorH19
namespace Go.Proofs.YtadogjnoklabdaaDoor
open Go.ChangeShapes Go.WideShapes Go.ChangeAt Go.RowKit Go.Deep
set_option maxRecDepth 100000

theorem keyE_args {wh k : Int} {d : DepD} {n : Nat} {al : Bool} (h : keyE wh (k, d, n, al) = true) (hw : 1 ≤ wh) (hk : k ≠ 1) : 2 ≤ n := by
  rw [keyE_iff] at h
  obtain ⟨h1, _, h3, _⟩ := h
  simp only at h1 h3
  unfold askE at h1 h3
  rw [if_neg hk] at h1 h3
  repeat' split at h3
  all_goals first | (simp only at h3; omega) | skip
  rename_i e2 e3 e4 e5 e6 e7
  rw [if_neg e2, if_neg e3, if_neg e4, if_neg e5, if_neg e6, if_neg e7] at h1
  simp only at h1
  omega
theorem maxN_lt {f g : Nat → Nat} : ∀ n, 1 ≤ n → (∀ j, j < n → f j < g j) → maxN f n < sumN g n
  | 0, h, _ => by omega
  | 1, _, h => by
    have := h 0 (by omega)
    simp only [maxN, sumN]
    omega
  | n + 2, _, h => by
    have h1 := maxN_lt (n + 1) (by omega) (fun j hj => h j (by omega))
    have h2 := h (n + 1) (by omega)
    simp only [maxN, sumN] at h1 ⊢
    omega
theorem catN_pos {α : Type} {f : Nat → List α} {n : Nat} (hn : 1 ≤ n) (h : 0 < (f 0).length) : 0 < (catN f n).length := by
  have h1 := (catN_pre (f := f) hn).length_le
  simp only [catN, List.nil_append] at h1
  omega
theorem deep_lt : (r : RichD) → (al : Bool) → (r.parts al).all (keyE 1) = true → r.depth < r.count ∧ 0 < r.atoms.length
  | .nil, al, h => by
    simp only [RichD.parts, List.all_cons, Bool.and_eq_true] at h
    have := keyE_args h.1 (by omega) (by omega)
    omega
  | .node k d n f, al, h => by
    rw [parts_eq] at h
    simp only [List.all_cons, Bool.and_eq_true, RichD.kind, RichD.dep, RichD.n, RichD.args, all_cat] at h
    by_cases hk : k = 1
    · subst hk
      refine ⟨?_, ?_⟩
      · show (if (1 : Int) = 1 then 0 else _) < 1 + _
        rw [if_pos rfl]
        omega
      · show 0 < ((if (1 : Int) = 1 then [d] else []) ++ _).length
        rw [if_pos rfl, List.length_append, List.length_singleton]
        omega
    · have hn := keyE_args h.1 (by omega) hk
      refine ⟨?_, ?_⟩
      · show (if k = 1 then 0 else maxN (fun j => (f j).depth) n + 1) < 1 + sumN (fun j => (f j).count) n
        rw [if_neg hk]
        have := maxN_lt (f := fun j => (f j).depth) (g := fun j => (f j).count) n (by omega) (fun j hj => (deep_lt (f j) _ (h.2 j hj)).1)
        omega
      · show 0 < ((if k = 1 then [d] else []) ++ catN (fun j => (f j).atoms) n).length
        rw [if_neg hk, List.nil_append]
        exact catN_pos (by omega) (deep_lt (f 0) _ (h.2 0 (by omega))).2
theorem may_deep {r : RichD} (h : mayE r 1 = 0) : r.depth < r.count ∧ 0 < r.atoms.length := deep_lt r false (mayE_ok.1 h).2.2.2.2

/-- A Dep's cells at a place. -/
structure DepR (w : World) (b o : Nat) (d : DepD) : Prop where
  c0 : w.cell? ⟨b, o, none⟩ = some (.string d.name)
  c1 : w.cell? ⟨b, o + 1, none⟩ = some (.int .u8 d.op)
  c2 : w.cell? ⟨b, o + 2, none⟩ = some (.int .i64 d.ep)
  c3 : w.cell? ⟨b, o + 3, none⟩ = some (.string d.ver)
  c4 : w.cell? ⟨b, o + 4, none⟩ = some (.string d.rel)
  lt : b < w.heap.size
/-- A slice's Deps are there to be read. -/
def RdD (w : World) (ao : Option Addr) (ds : List DepD) : Prop := 0 < ds.length → ∃ g off, ao = some ⟨g, off, none⟩ ∧ ∀ j, (hj : j < ds.length) → DepR w g (off + j * 5) ds[j]
theorem Own.deps {w : World} {ao : Option Addr} {c : Nat} {ds : List DepD} (h : Own w 25 5 (.slice ao ds.length c) ds.length (enD ds)) : RdD w ao ds := fun h0 => by
  obtain ⟨ao', c', he, _, _, hc⟩ := h.form
  injection he with he _ _
  subst he
  obtain ⟨g, off, rfl, hcells, _, hlt⟩ := hc h0
  refine ⟨g, off, rfl, fun j hj => ?_⟩
  have k : ∀ i, i < 5 → w.cell? ⟨g, off + j * 5 + i, none⟩ = ds[j].cs[i]? := fun i hi => by
    rw [Nat.add_assoc, hcells (j * 5 + i) (by rw [enD_len]; omega), enD_at ds j hj i hi]
  exact ⟨k 0 (by omega), k 1 (by omega), k 2 (by omega), k 3 (by omega), k 4 (by omega), hlt⟩

set_option maxHeartbeats 4000000 in
theorem deps_same (w : World) (ds : List DepD) (ao1 ao2 : Option Addr) (c1 c2 : Nat) (h1 : RdD w ao1 ds) (h2 : RdD w ao2 ds) (hl : ds.length ≤ 4611686018427387904) :
    Calls Tryd.prog 16 #[.slice ao1 ds.length c1, .slice ao2 ds.length c2] w fun e w' => e = .returned (.bool true) ∧ ∃ m, w' = w.drewN m := by
  have HR1 := Lib.hid h1
  have HR2 := Lib.hid h2
  clear h1 h2
  go_enter Tryd.func16, Tryd.ntmps16
  go_wp2_with fail
  go_loopw [5] (fun i wr => ∃ k : Nat, k ≤ ds.length ∧ i = .int .i64 k ∧ ∃ m, wr = w.drewN m) (fun i wr => ds.length - (intOf i).toNat)
  case atStart => exact ⟨0, by omega, rfl, 0, rfl⟩
  case round =>
    obtain ⟨k, hk, rfl, m, rfl⟩ := hrel
    by_cases hlt : k < ds.length
    · have hki : (k : Int) < (ds.length : Int) := by omega
      obtain ⟨g1, o1, rfl, hd1⟩ := HR1.out (by omega)
      obtain ⟨g2, o2, rfl, hd2⟩ := HR2.out (by omega)
      obtain ⟨a0, a1, a2, a3, a4, a5⟩ := hd1 k hlt
      obtain ⟨b0, b1, b2, b3, b4, b5⟩ := hd2 k hlt
      obtain ⟨d, hd⟩ : ∃ d, d = ds[k] := ⟨_, rfl⟩
      rw [← hd] at a0 a1 a2 a3 a4 b0 b1 b2 b3 b4
      clear hd hd1 hd2
      go_wp2_with fail
      go_region
      go_wp2_with fail
      go_roundw
      case rel => exact ⟨k + 1, by omega, by go_num, m + 1, rfl⟩
      case measure => simp [intOf]; omega
    · obtain rfl : k = ds.length := by omega
      go_wp2_with fail
      go_ret
      exact ⟨rfl, m, rfl⟩
end Go.Proofs.YtadogjnoklabdaaDoor
