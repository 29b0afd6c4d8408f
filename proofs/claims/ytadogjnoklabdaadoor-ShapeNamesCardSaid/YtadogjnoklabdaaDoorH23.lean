/- A rich dependency that is handed in: opened. Conditions: as each theorem names them. -/
import Derived.Test.YtadogjnoklabdaaDoorH22
import Derived.Test.YtadogjnoklabdaaDoorArgs
namespace Go.Proofs.YtadogjnoklabdaaDoor
open Go.ChangeShapes Go.WideShapes Go.ChangeAt Go.RowKit Go.Deep
set_option maxRecDepth 100000

theorem c28 : Tryd.prog.cellsOf 28 = 7 := by kernel_rfl
theorem c25 : Tryd.prog.cellsOf 25 = 5 := by kernel_rfl
theorem c23 : Tryd.prog.cellsOf 23 = 3 := by kernel_rfl
theorem c26 : Tryd.prog.cellsOf 26 = 1 := by kernel_rfl
theorem c9 : Tryd.prog.cellsOf 9 = 1 := by kernel_rfl
theorem c5 : Tryd.prog.cellsOf 5 = 1 := by kernel_rfl
theorem c3 : Tryd.prog.cellsOf 3 = 1 := by kernel_rfl
theorem open_rich {H : Type} {enc : TypeId × Value → H} {W : World} {base : Nat} {spare : Nat → Bool} {held : Bool} : ∀ (fuel : Nat) (cs : List Value) (y : DataW H × List MemPlace), DataW.trod enc Tryd.prog W base spare held fuel 28 cs = some y → ∃ r s, cs = [.int .u8 r.kind, .string r.dep.name, .int .u8 r.dep.op, .int .i64 r.dep.ep, .string r.dep.ver, .string r.dep.rel, s] ∧ IsArgs W r s := by
  intro fuel
  induction fuel using Nat.strongRecOn with
  | _ fuel ih =>
    intro cs y h
    obtain ⟨xs, n, rfl, hx, hl, hlen, hf⟩ := DataW.trod_struct Tryd.underlying28 h
    rw [c28] at hl
    match cs, hl with
    | [c0, c1, c2, c3', c4, c5', c6], _ =>
      match xs, hlen with
      | [x0, x1, x2], _ =>
        have h0 : DataW.trod enc Tryd.prog W base spare held n 5 [c0] = some x0 := by simpa [c5] using hf 0 _ rfl
        have h1 : DataW.trod enc Tryd.prog W base spare held n 25 [c1, c2, c3', c4, c5'] = some x1 := by simpa [c25] using hf 1 _ rfl
        have h2 : DataW.trod enc Tryd.prog W base spare held n 26 [c6] = some x2 := by simpa [c26] using hf 2 _ rfl
        clear hf hx h
        obtain ⟨kd, hk, _, hkw⟩ := DataW.trod_int Tryd.underlying5 h0
        obtain rfl : c0 = .int .u8 kd := by simpa using hk
        obtain ⟨zs, m, rfl, _, _, hzl, hg⟩ := DataW.trod_struct Tryd.underlying25 h1
        match zs, hzl with
        | [z0, z1, z2], _ =>
          have g0 : DataW.trod enc Tryd.prog W base spare held m 9 [c1] = some z0 := by simpa [c9] using hg 0 _ rfl
          have g1 : DataW.trod enc Tryd.prog W base spare held m 5 [c2] = some z1 := by simpa [c5] using hg 1 _ rfl
          have g2 : DataW.trod enc Tryd.prog W base spare held m 23 [c3', c4, c5'] = some z2 := by simpa [c23] using hg 2 _ rfl
          clear hg h1 h0
          obtain ⟨nm, hnm, _, hns⟩ := DataW.trod_string Tryd.underlying9 g0
          obtain rfl : c1 = .string nm := by simpa using hnm
          obtain ⟨op, hop, _, _⟩ := DataW.trod_int Tryd.underlying5 g1
          obtain rfl : c2 = .int .u8 op := by simpa using hop
          obtain ⟨us, q, rfl, _, _, hul, hu⟩ := DataW.trod_struct Tryd.underlying23 g2
          match us, hul with
          | [u0, u1, u2], _ =>
            have k0 : DataW.trod enc Tryd.prog W base spare held q 3 [c3'] = some u0 := by simpa [c3] using hu 0 _ rfl
            have k1 : DataW.trod enc Tryd.prog W base spare held q 9 [c4] = some u1 := by simpa [c9] using hu 1 _ rfl
            have k2 : DataW.trod enc Tryd.prog W base spare held q 9 [c5'] = some u2 := by simpa [c9] using hu 2 _ rfl
            obtain ⟨ep, hep, _, _⟩ := DataW.trod_int Tryd.underlying3 k0
            obtain rfl : c3' = .int .i64 ep := by simpa using hep
            obtain ⟨ve, hve, _, hvs⟩ := DataW.trod_string Tryd.underlying9 k1
            obtain rfl : c4 = .string ve := by simpa using hve
            obtain ⟨re, hre, _, hrs⟩ := DataW.trod_string Tryd.underlying9 k2
            obtain rfl : c5' = .string re := by simpa using hre
            clear hu k0 k1 k2 g0 g1 g2
            have hfit : ∀ nn f, fitR (RichD.node kd ⟨nm, op, ep, ve, re⟩ nn f).kind (RichD.node kd ⟨nm, op, ep, ve, re⟩ nn f).dep := fun nn f => by
              have h3 : 0 ≤ kd ∧ kd < 256 := by
                have h4 := hkw
                simp [Lit.wf, IntKind.min, IntKind.max, IntKind.signed, IntKind.bits] at h4
                omega
              simp only [maxLen] at hns hvs hrs
              exact ⟨⟨by show nm.size ≤ _; omega, by show ve.size ≤ _; omega, by show re.size ≤ _; omega⟩, h3.1, h3.2⟩
            rcases DataW.trod_slice Tryd.underlying26 h2 with ⟨h3, _⟩ | ⟨a, len, cap, elems, rest, p, hp, h3, _, _, _, hcm, hel, hi, _⟩
            · obtain rfl : c6 = .slice none 0 0 := by simpa using h3
              exact ⟨.node kd ⟨nm, op, ep, ve, re⟩ 0 (fun _ => .nil), _, rfl, .mk _ none 0 (fun _ => .slice none 0 0) (hfit _ _) (Nat.zero_le _) (fun j hj => absurd hj (Nat.not_lt_zero j)) (fun j hj => absurd hj (Nat.not_lt_zero j))⟩
            · obtain rfl : c6 = .slice (some a) len cap := by simpa using h3
              have hpl : 0 < len → ∃ b o, a = ⟨b, o, none⟩ := fun h0 => by
                have h5 := hi 0 h0
                rw [c28, List.getElem?_eq_getElem (by omega)] at h5
                obtain ⟨cs', hc, ht⟩ := Option.bind_eq_some_iff.1 h5
                obtain ⟨r, s, rfl, hr⟩ := ih p (by omega) _ _ ht
                obtain ⟨_, hcl, hat⟩ := World.cells?_some hc
                have a0 := hat 0 (by omega)
                obtain ⟨b, off, h7, _⟩ := addr_of_cell a0
                exact ⟨b, off, h7⟩
              have hall : ∀ j : Nat, ∃ rs : RichD × Value, j < len → (∃ b o, some a = some ⟨b, o, none⟩ ∧ RichAt W b (o + j * 7) rs.1 rs.2) ∧ IsArgs W rs.1 rs.2 := fun j => by
                by_cases hj : j < len
                · have h5 := hi j hj
                  rw [c28, List.getElem?_eq_getElem (by omega)] at h5
                  obtain ⟨cs', hc, ht⟩ := Option.bind_eq_some_iff.1 h5
                  obtain ⟨r, s, rfl, hr⟩ := ih p (by omega) _ _ ht
                  obtain ⟨_, hcl, hat⟩ := World.cells?_some hc
                  refine ⟨(r, s), fun _ => ⟨?_, hr⟩⟩
                  obtain ⟨b, o, rfl⟩ := hpl (by omega)
                  have k : ∀ i (v : Value), i < 7 → [Value.int .u8 r.kind, .string r.dep.name, .int .u8 r.dep.op, .int .i64 r.dep.ep, .string r.dep.ver, .string r.dep.rel, s][i]? = some v → W.cell? ⟨b, o + j * 7 + i, none⟩ = some v := fun i v hi hv => by
                    have h6 := hat i hi
                    rw [add_plain, add_plain] at h6
                    exact h6.trans hv
                  have k0 := k 0 _ (by omega) rfl
                  exact ⟨b, o, rfl, ⟨k 0 _ (by omega) rfl, k 1 _ (by omega) rfl, k 2 _ (by omega) rfl, k 3 _ (by omega) rfl, k 4 _ (by omega) rfl, k 5 _ (by omega) rfl, k 6 _ (by omega) rfl, cell_lt k0⟩⟩
                · exact ⟨(.nil, .slice none 0 0), fun h => absurd h hj⟩
              obtain ⟨F, hF⟩ := Classical.axiomOfChoice hall
              simp only [maxLen] at hcm
              exact ⟨.node kd ⟨nm, op, ep, ve, re⟩ len (fun j => (F j).1), _, rfl, .mk (.node kd ⟨nm, op, ep, ve, re⟩ len (fun j => (F j).1)) (some a) cap (fun j => (F j).2) (hfit _ _) (by show len ≤ _; omega) (fun j hj => (hF j hj).1) (fun j hj => (hF j hj).2)⟩
end Go.Proofs.YtadogjnoklabdaaDoor
