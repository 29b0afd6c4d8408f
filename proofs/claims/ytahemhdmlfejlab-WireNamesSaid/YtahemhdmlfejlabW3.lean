/- Contracts of package wire: put, where all fits. -/
import Derived.Test.YtahemhdmlfejlabW2
namespace Go.Proofs.Ytahemhdmlfejlab
open Go.ChangeShapes Go.WideShapes Go.ChangeAt Go.RowKit

/-- Which blocks a writer at g, whose bytes lie in v, may have turned. -/
def WF (g : Nat) (v : Value) (k : Nat) : Prop := k = g ∨ v.ownBlock = some k

theorem put_ok (w : World) (H g bL : Nat) (ps : List Part) (bs : List UInt8) (v : Value) (hW : Blk w g 51 #[v]) (hO : Own w 5 1 v bs.length (bc bs)) (hbL : Blk w bL 49 (ps.map Prod.fst).toArray)
    (hgH : g < H) (hvH : ∀ k, v.ownBlock = some k → k < H) (hps : ∀ p ∈ ps, Rd w (fun k => H ≤ k ∧ k < w.heap.size) p.1 p.2.length (bc p.2)) (hH : H ≤ w.heap.size) (hlen : bs.length ≤ 4194304) (hn : ps.length ≤ 2) (hyes : bs.length + (catB ps ps.length).length ≤ 4194304) :
    Calls Try.prog 24 #[.pointer (some ⟨g, 0, none⟩), .slice (some ⟨bL, 0, none⟩) ps.length ps.length] w fun e w' => e = .returned (.int .i64 0) ∧ ∃ v', Blk w' g 51 #[v'] ∧
      Own w' 5 1 v' (bs ++ catB ps ps.length).length (bc (bs ++ catB ps ps.length)) ∧ Touch (WF g v) w w' ∧ ∀ k, v'.ownBlock = some k → v.ownBlock = some k ∨ w.heap.size ≤ k := by
  obtain ⟨i5, hi, hz0, hz1, hz2⟩ := info_parts Tryinfo5
  obtain ⟨ao, cap, hv, hnc, hcm, hform⟩ := hO.form
  have hc := hW.cell 0
  simp [hv] at hc
  have hbne : bL ≠ g := hbL.ne_ hW (by decide)
  have hvb : v.ownBlock ≠ some bL := hO.ne_blk hbL (by decide)
  have hvg : v.ownBlock ≠ some g := hO.ne_blk hW (by decide)
  have hbw := hbL.lt
  have HV := Lib.hid hv
  have HB := Lib.hid hvb
  have HG := Lib.hid hvg
  clear hv hvb hvg
  go_enter Try.func24, Try.ntmps24
  go_wp2_with fail
  go_loop [5, 17] (fun x i => ∃ k : Nat, k ≤ ps.length ∧ i = .int .i64 k ∧ x = .int .i64 ((bs.length + (catB ps k).length : Nat) : Int)) (fun _ i => ps.length - (intOf i).toNat)
  case atStart => exact ⟨0, by omega, rfl, by simp [catB]⟩
  case round =>
    obtain ⟨k, hk, rfl, rfl⟩ := hrel
    by_cases hlt : k < ps.length
    · obtain ⟨ao1, cap1, hv1, hc1⟩ := part_cell hbL hps k hlt
      have hsucc := catB_succ ps k hlt
      have hl1 : (catB ps (k + 1)).length = (catB ps k).length + ps[k].2.length := by rw [hsucc, List.length_append]
      have hmo := catB_mono ps (k + 1) ps.length (by omega)
      have HL := Lib.hid hl1
      have hfit : ps[k].2.length ≤ 4194304 - (bs.length + (catB ps k).length) := by omega
      have hq : bs.length + (catB ps k).length ≤ 4194304 := by omega
      clear hsucc hl1 hv1
      generalize ps[k].2.length = m at *
      generalize (catB ps k).length = q at *
      go_wp2
      go_round
      case rel => exact ⟨k + 1, by omega, by go_num, by rw [HL.out]; go_num⟩
      case measure => simp [intOf]; omega
    · obtain rfl : k = ps.length := by omega
      go_wp2_with fail
      go_loopw [33] (fun i wr => ∃ (k : Nat) (u : Value) (cur : List UInt8), k ≤ ps.length ∧ i = .int .i64 k ∧ Blk wr g 51 #[u] ∧ Own wr 5 1 u cur.length (bc cur) ∧ cur = bs ++ catB ps k ∧ Touch (WF g v) w wr ∧ ∀ k, u.ownBlock = some k → v.ownBlock = some k ∨ w.heap.size ≤ k) (fun i _ => ps.length - (intOf i).toNat)
      case atStart => exact ⟨0, v, bs, by omega, rfl, hW, hO, by simp [catB], Touch.refl _ _, fun k hk => .inl hk⟩
      case round =>
        obtain ⟨k, u, cur, hk, rfl, hW2, hO2, hcur, hT, hu⟩ := hrel
        by_cases hlt : k < ps.length
        · have hbL2 : Blk wr bL 49 (ps.map Prod.fst).toArray := hbL.touch hT (by rintro (h | h); exact hbne h; exact HB.out h)
          have hps2 : ∀ p ∈ ps, Rd wr (fun k => H ≤ k ∧ k < w.heap.size) p.1 p.2.length (bc p.2) := fun p hp => (hps p hp).touch hT (by
            rintro q ⟨hq1, hq2⟩ (h | h)
            · omega
            · have := hvH q h; omega)
          obtain ⟨ao1, cap1, hv1, hc1⟩ := part_cell hbL2 hps2 k hlt
          have hS := (hps2 ps[k] (List.getElem_mem _)).src (P := Try.prog) Try.underlying49 (bc_one _)
          rw [hv1] at hS
          have hsucc := catB_succ ps k hlt
          have hmo := catB_mono ps (k + 1) ps.length (by omega)
          have hl2 : cur.length + ps[k].2.length ≤ 4194304 := by rw [hcur, List.length_append]; rw [hsucc, List.length_append] at hmo; omega
          have hcu := hW2.cell 0
          have hfu := hW2.frozen 0
          have hug : u.ownBlock ≠ some g := hO2.ne_blk hW2 (by decide)
          obtain ⟨au, cu, rfl, _, _, _⟩ := hO2.form
          simp at hcu
          have HC : Hid (cur ++ ps[k].2 = bs ++ catB ps (k + 1)) := by rw [hsucc, hcur, List.append_assoc]; rfl
          have HT := Lib.hid hT
          have HU := Lib.hid hug
          have HX := Lib.hid hu
          clear hsucc hv1 hT hbL2 hps2 hcur hug hmo hu
          generalize ps[k].2 = pk at *
          go_wp2_with (at_builtin; refine wpList_append_S _ rfl (.tmp 41) (.tmp 42) _ _ rfl 5 i5 _ 1 1 Try.underlying49 hi hz0 hz1 hz2 rfl (by omega) (.slice au cur.length cu) _ _ rfl hO2 (bc_one _) _ _ _ rfl hS (by simp only [maxLen]; omega) (by omega) ?_; intro ao2 cap2 w1 hn1 hm1 hown1 hg1 hat1 hlt1; have hWn := hW2.grown hg1 (Ne.symm HU.out); have hcn := hWn.cell 0; simp at hcn; have hfn := hWn.frozen 0)
          go_roundw
          case rel =>
            refine ⟨k + 1, _, cur ++ pk, by omega, by go_num, hWn.set_ 0 _, ?_, HC.out, ?_, ?_⟩
            · rw [List.length_append, bc_app]
              exact hown1.far (p := ⟨g, 0, none⟩) (hown1.ne_blk hWn (by decide)) _
            · refine (HT.out.trans (Touch.of_grown (F := fun j => (Value.slice au cur.length cu).ownBlock = some j) hg1 (fun j hj => hj)) fun x hx hj => ?_).setCell (p := ⟨g, 0, none⟩) (fun _ => .inl rfl) _
              rcases HX.out x hj with h | h
              · exact .inr h
              · omega
            · intro j hj
              rcases hat1 with h | h
              · exact HX.out j (h ▸ hj)
              · rw [h] at hj
                injection hj with hj
                have := HT.out.size
                exact .inr (by omega)
          case measure => simp [intOf]; omega
        · obtain rfl : k = ps.length := by omega
          go_wp2_with fail
          go_ret
          subst hcur
          exact ⟨rfl, u, hW2, hO2, hT, hu⟩

end Go.Proofs.Ytahemhdmlfejlab
