/- What start-up lays, out of the row's condition: Words and Ops. Conditions: as each theorem names them. -/
import Derived.Test.YtadogjnoklabdaaDoorH23
import Derived.Test.YtadogjnoklabdaaDoorRows
import Derived.ProofKit
import Derived.LaidMore
import Derived.OpenShut
namespace Go.Proofs.YtadogjnoklabdaaDoor
open Go.ChangeShapes Go.WideShapes Go.ChangeAt Go.WideMaps Go.WideElems Go.RowKit Go.Maps Go.Deep
set_option maxRecDepth 100000

theorem gOps : Tryd.prog.globalNamed "chandlery/span.ops" = some 1 := by kernel_rfl
theorem gWords : Tryd.prog.globalNamed "chandlery/dep.words" = some 0 := by kernel_rfl
theorem tOps : (Tryd.prog.globals[1]?).map (·.type) = some 67 := by kernel_rfl
theorem tWords : (Tryd.prog.globals[0]?).map (·.type) = some 64 := by kernel_rfl
abbrev laid09 {H : Type} : List (String × DataW H) := [("chandlery/span.ops", Rows.laid_chandlery_span_ops), ("chandlery/dep.words", Rows.laid_chandlery_dep_words)]
theorem c64 : Tryd.prog.cellsOf 64 = 7 := by kernel_rfl
theorem of_laid {W : World} (h : laidMetH Tryd.prog laid09 W) : Words W ∧ Ops W := by
  rw [MakeChecks.laidMetH_plain _ _ _ (by kernel_rfl)] at h
  obtain ⟨ps, ⟨g0, t0, cs0, f0, p0, q0, hg0, ht0, hv0, hd0, ⟨g1, t1, cs1, f1, p1, q1, hg1, ht1, hv1, hd1, _, _⟩, _⟩, _, _⟩ := h
  obtain rfl := Option.some.inj (gOps.symm.trans hg0)
  obtain rfl := Option.some.inj (gWords.symm.trans hg1)
  obtain rfl := Option.some.inj (tOps.symm.trans ht0)
  obtain rfl := Option.some.inj (tWords.symm.trans ht1)
  constructor
  · obtain ⟨xs, m1, rfl, hx1, hlen, hn3, hel⟩ := DataW.trod_array Tryd.underlying64 hd1
    rw [c64] at hlen
    have hcl : ∀ j, W.cell? ⟨0, j, none⟩ = cs1[j]? := fun j => World.var?_cell hg1 hv1 j
    have hw : ∀ j, j < 7 → W.cell? ⟨0, j, none⟩ = some (.string (wordV j)) := by
      obtain ⟨l⟩ := cs1
      simp only at hlen hel hcl
      match l, hlen with
      | [c0, c1, c2, c3, c4, c5, c6], _ =>
        match xs, hn3, hx1, hel with
        | [x0, x1, x2, x3, x4, x5, x6], _, hx1, hel =>
          have hx2 := (Prod.mk.inj hx1).1
          simp only [Rows.laid_chandlery_dep_words, List.map_cons, List.map_nil, DataW.agg.injEq, List.cons.injEq, and_true] at hx2
          have one : ∀ (i : Nat) (c : Value) (x : DataW Unit × List MemPlace) (b : List UInt8), DataW.trod (fun _ => ()) Tryd.prog W 0 (fun _ => true) false m1 9 [c] = some x → DataW.lit (.string b) = x.1 → c = .string ⟨b.toArray⟩ := fun i c x b h1 h2 => by
            obtain ⟨s, hs, hx, _⟩ := DataW.trod_string Tryd.underlying9 h1
            rw [hx] at h2
            simp only [DataW.lit.injEq, Lit.string.injEq] at h2
            simp only [List.cons.injEq, and_true] at hs
            rw [hs, h2]
          intro j hj
          rw [hcl]
          have : j = 0 ∨ j = 1 ∨ j = 2 ∨ j = 3 ∨ j = 4 ∨ j = 5 ∨ j = 6 := by omega
          rcases this with rfl | rfl | rfl | rfl | rfl | rfl | rfl
          · exact congrArg some (one 0 _ x0 _ (by simpa [c9] using hel 0 (by omega)) hx2.1)
          · exact congrArg some (one 1 _ x1 _ (by simpa [c9] using hel 1 (by omega)) hx2.2.1)
          · exact congrArg some (one 2 _ x2 _ (by simpa [c9] using hel 2 (by omega)) hx2.2.2.1)
          · exact congrArg some (one 3 _ x3 _ (by simpa [c9] using hel 3 (by omega)) hx2.2.2.2.1)
          · exact congrArg some (one 4 _ x4 _ (by simpa [c9] using hel 4 (by omega)) hx2.2.2.2.2.1)
          · exact congrArg some (one 5 _ x5 _ (by simpa [c9] using hel 5 (by omega)) hx2.2.2.2.2.2.1)
          · exact congrArg some (one 6 _ x6 _ (by simpa [c9] using hel 6 (by omega)) hx2.2.2.2.2.2.2)
    exact ⟨cell_lt (hw 0 (by omega)), hw⟩
  · rcases open_map Tryd.underlying67 hd0 with ⟨_, hx⟩ | ⟨bm, es, clock, m, rfl, hcs, hb, _, F, hx⟩
    · simp [Rows.laid_chandlery_span_ops] at hx
    have hcell : ∀ j, W.cell? ⟨1, j, none⟩ = cs0[j]? := fun j => World.var?_cell hg0 hv0 j
    have h0 : W.cell? ⟨1, 0, none⟩ = some (.map (some bm)) := by
      have := hcell 0
      rw [Array.eq_one_of_toList hcs] at this
      simpa using this
    have hown := World.ownsMap_of_fit (R := plainElem Tryd.prog 5) hb F (fun x _ z hz => elemAt_plainElem_int Tryd.underlying5 hz)
    have hx2 := (Prod.mk.inj hx).1
    rw [← hx2] at hown
    exact ⟨cell_lt h0, Unit, bm, es.size, h0, hown⟩
end Go.Proofs.YtadogjnoklabdaaDoor
