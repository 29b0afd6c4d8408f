/- Package core: Of. Conditions: as each theorem names them. -/
import Derived.Test.YthinopiobihmaaaGo
namespace Go.Proofs.Ythinopiobihmaaa
open Go.ChangeShapes Go.WideShapes Go.ChangeAt Go.RowKit Go.Maps Go.Deep Go.Shelf
set_option maxRecDepth 100000
attribute [local go_sem] Oper.semAt_some

/-! ### What Of tells -/
def fitsF (N : Int) : List (List Int) → Bool
  | [] => true
  | c :: r => fitsE c N && fitsF (N + 1) r
def backE (N : Nat) (cl : List (List Int)) (r : List Bool) (L : List Nat) : List Bool := L.foldl (fun r j => if r.getD (N + j) false then markE r (cl.getD j []) else r) r
def outE (r : List Bool) (m : Nat) : List Int := ((List.range m).filter fun n => r.getD n false).map Int.ofNat
def marksE (N : Nat) (cl : List (List Int)) (last : List Int) : List Bool := backE N cl (markE (List.replicate (N + cl.length) false) last) (List.range cl.length).reverse
def coreE (N : Nat) (cl : List (List Int)) (last : List Int) : List Int := outE (marksE N cl last) N
def cofE (inputs : Int) (cl : List (List Int)) (last : List Int) : List Int × Int :=
  if inputs < 0 ∨ 4194304 < inputs then ([], 1) else if fitsF inputs cl && fitsE last (inputs + cl.length) then (coreE inputs.toNat cl last, 0) else ([], 4)

theorem fitsF_drop {N : Int} {cl : List (List Int)} {k : Nat} (h : k < cl.length) : fitsF (N + k) (cl.drop k) = (fitsE cl[k] (N + k) && fitsF (N + (k + 1 : Nat)) (cl.drop (k + 1))) := by
  rw [List.drop_eq_getElem_cons h]
  show (_ && fitsF (N + k + 1) _) = _
  rw [show N + (k : Int) + 1 = N + ((k + 1 : Nat) : Int) by omega]
theorem fitsF_at : ∀ {cl : List (List Int)} {N : Int}, fitsF N cl = true → ∀ j (h : j < cl.length), fitsE cl[j] (N + j) = true
  | c :: r, N, h, 0, _ => by
    unfold fitsF at h
    rw [Bool.and_eq_true] at h
    simpa using h.1
  | c :: r, N, h, j + 1, hj => by
    unfold fitsF at h
    rw [Bool.and_eq_true] at h
    have := fitsF_at h.2 j (by simpa using hj)
    rw [show N + 1 + (j : Int) = N + ((j + 1 : Nat) : Int) by omega] at this
    simpa using this
theorem fitsE_mem {l : List Int} {b : Int} (h : fitsE l b = true) : ∀ x ∈ l, 0 ≤ x ∧ x < b := fun x hx => by
  unfold fitsE at h
  rw [Bool.not_eq_true', List.any_eq_false] at h
  have := h x hx
  simp at this
  exact this

theorem backE_len (N : Nat) (cl : List (List Int)) (L : List Nat) : ∀ r : List Bool, (backE N cl r L).length = r.length := by
  induction L with
  | nil => intro r; rfl
  | cons x L ih =>
    intro r
    refine (ih _).trans ?_
    dsimp only
    split
    · exact markE_len _ _
    · rfl
theorem backE_snoc (N : Nat) (cl : List (List Int)) (r : List Bool) (L : List Nat) (j : Nat) : backE N cl r (L ++ [j]) = if (backE N cl r L).getD (N + j) false then markE (backE N cl r L) (cl.getD j []) else backE N cl r L := by
  unfold backE
  rw [List.foldl_append]
  rfl
theorem outE_succ (r : List Bool) (m : Nat) : outE r (m + 1) = if r.getD m false then outE r m ++ [(m : Int)] else outE r m := by
  unfold outE
  rw [List.range_succ, List.filter_append, List.map_append]
  by_cases h : r.getD m false = true
  · rw [if_pos h]
    congr 1
    rw [List.filter_cons_of_pos (by simpa using h)]
    rfl
  · rw [if_neg h, List.filter_cons_of_neg (by simpa using h)]
    simp
theorem outE_len (r : List Bool) (m : Nat) : (outE r m).length ≤ m := by
  unfold outE
  rw [List.length_map]
  exact Nat.le_trans (List.length_filter_le _ _) (by simp)
theorem keeps_of {gr : Nat} {W W' : World} {t : TypeId} {cs : Array Value} (h : Touch (fun k => k = gr) W W') (hb : Blk W gr t cs) (B : Nat) : KeepsFrom B W W' := ⟨h.size, fun k o _ hk ho => by
  by_cases e : k = gr
  · subst e
    unfold Blk at hb
    rw [hb] at hk
    injection hk with hk
    rw [← hk] at ho
    simp [Obj.isCells] at ho
  · exact (h.block k (Array.getElem?_eq_some_iff.1 hk).1 e).trans hk⟩
theorem blk_walk {A B : World} {row : Option Nat} {g : Nat} {t : TypeId} {cs : Array Value} {n0 : Nat} (h : Blk A g t cs) (hg : A.grownBy B row) (hr : ∀ r, row = some r → n0 ≤ r ∧ ∃ o : Obj, A.heap[r]? = some o ∧ o.isCells = false) : Blk B g t cs :=
  h.grown hg fun e => by
    obtain ⟨_, o, ho, hc⟩ := hr g e.symm
    unfold Blk at h
    rw [h] at ho
    injection ho with ho
    rw [← ho] at hc
    simp [Obj.isCells] at hc

theorem out_snoc {w0 w1 w2 : World} {v v' : Value} {o : Obj} (hb : Below w0.heap.size w0 w1) (hv : ∀ b, v.ownBlock = some b → w0.heap.size ≤ b) (hg : (w1.alloc o).grownBy w2 v.ownBlock) (hat : v'.ownBlock = v.ownBlock ∨ v'.ownBlock = some (w1.alloc o).heap.size) :
    (∀ b, v'.ownBlock = some b → w0.heap.size ≤ b) ∧ Below w0.heap.size w0 w2 := by
  have h1 := hb.alloc hb.size o
  refine ⟨fun b e => ?_, h1.grown hg h1.size fun k e => hv k e⟩
  rcases hat with e2 | e2
  · exact hv b (e2 ▸ e)
  · rw [e2] at e
    injection e with e
    rw [← e]
    exact h1.size

theorem sum_i64 {a b : Int} (h1 : 0 ≤ a) (h2 : a ≤ 4194304) (h3 : 0 ≤ b) (h4 : b ≤ 1000000) : IntKind.i64.wrap (a + b) = a + b := by rw [IntKind.wrap_i64]; omega

theorem made3 {w w' : World} {m : Nat} (h : w' = ((w.alloc (.cells (madeCells #[.bool false] m) 4)).alloc (.cells #[.slice (some ⟨w.heap.size, 0, none⟩) m m] 38)).alloc (.cells #[.func (.func 54) #[] #[.pointer (some ⟨w.heap.size + 1, 0, none⟩)]] 91)) :
    Below w.heap.size w w' ∧ w'.heap.size = w.heap.size + 3 ∧ Blk w' w.heap.size 4 (boS (List.replicate m false)).toArray ∧ Blk w' (w.heap.size + 1) 38 #[.slice (some ⟨w.heap.size, 0, none⟩) m m] ∧ Blk w' (w.heap.size + 1 + 1) 91 #[.func (.func 54) #[] #[.pointer (some ⟨w.heap.size + 1, 0, none⟩)]] := by
  subst h
  have e : madeCells #[Value.bool false] m = (boS (List.replicate m false)).toArray := by
    have := toList_madeCells_one (.bool false) m
    rw [← Array.toList_inj, this]
    simp [boS]
  rw [e]
  have k1 := Blk.new w 4 (boS (List.replicate m false)).toArray
  have k2 := Blk.new (w.alloc (.cells (boS (List.replicate m false)).toArray 4)) 38 #[.slice (some ⟨w.heap.size, 0, none⟩) m m]
  have k3 := Blk.new ((w.alloc (.cells (boS (List.replicate m false)).toArray 4)).alloc (.cells #[.slice (some ⟨w.heap.size, 0, none⟩) m m] 38)) 91 #[.func (.func 54) #[] #[.pointer (some ⟨w.heap.size + 1, 0, none⟩)]]
  rw [World.size_alloc] at k2
  rw [World.size_alloc, World.size_alloc] at k3
  exact ⟨(((Below.refl _ w).alloc (Nat.le_refl _) _).alloc (by simp) _).alloc (by simp; omega) _, by simp, (k1.alloc _).alloc _, k2.alloc _, k3⟩

set_option maxHeartbeats 4000000 in
theorem cOf_any (inputs : Int) (cl : List (List Int)) (last : List Int) (ao al : Option Addr) (cap capl : Nat) (av : Nat → Option Addr) (cv : Nat → Nat) (w : World) (hR : IsRows w ao cl av cv) (hL : Ints w al last)
    (hcl : cl.length ≤ 1000000) (hrl : ∀ c ∈ cl, c.length ≤ 9223372036854775807) (hll : last.length ≤ 9223372036854775807) :
    Calls Try.prog 35 #[.int .i64 inputs, .slice ao cl.length cap, .slice al last.length capl] w fun e w' => ∃ ao' cap', e = .returned (.tuple #[.slice ao' (cofE inputs cl last).1.length cap', .int .i64 (cofE inputs cl last).2]) ∧
      Own w' 3 1 (.slice ao' (cofE inputs cl last).1.length cap') (cofE inputs cl last).1.length (inC (cofE inputs cl last).1) ∧ (∀ k, (Value.slice ao' (cofE inputs cl last).1.length cap').ownBlock = some k → w.heap.size ≤ k) ∧ Below w.heap.size w w' := by
  obtain ⟨o, ho⟩ : ∃ o, o = cofE inputs cl last := ⟨_, rfl⟩
  rw [← ho]
  have hw1 : ∃ w1, w1 = w.alloc (.cells #[.int .i64 inputs] 3) := ⟨_, rfl⟩
  obtain ⟨w1, hw1⟩ := hw1
  obtain ⟨g0, hg0⟩ : ∃ g0, g0 = w.heap.size := ⟨_, rfl⟩
  have hb1 : Below w.heap.size w w1 := by rw [hw1]; exact (Below.refl _ w).alloc (Nat.le_refl _) _
  have kb : Blk w1 g0 3 #[.int .i64 inputs] := by rw [hw1, hg0]; exact Blk.new w 3 #[.int .i64 inputs]
  have HR := Lib.hid (hR.below hb1)
  have HL := Lib.hid (hL.below hb1)
  have HB1 := Lib.hid hb1
  have HKB := Lib.hid kb
  clear hR hL kb hb1
  refine (callsIn_wide (n := 5)).1 ?_
  refine callsIn_of_wp_marks Try.func35 rfl trivial ?_ rfl
  simp only [Try.ntmps35, List.size_toArray, List.length_cons, List.length_nil, Nat.reduceAdd, Nat.reduceSub, Array.replicate_succ, Array.replicate_zero, List.push_toArray, List.append_toArray, List.nil_append, List.cons_append]
  refine wpIn_wide.2 ?_
  go_upto_region 1 with fail
  rw [← hw1, ← hg0]
  have HG0 := Lib.hid (show g0 ≤ w.heap.size ∧ w.heap.size ≤ g0 by omega)
  clear hw1 hg0
  have hc0 : w1.cell? ⟨g0, 0, none⟩ = some (.int .i64 inputs) := HKB.out.cell 0
  have HE0 : ∀ (c : Int) (w' : World), Hid (Below w1.heap.size w1 w') → Hid (∃ ao' cap', Ending.returned (.tuple #[.slice none 0 0, .int .i64 c]) = .returned (.tuple #[.slice ao' ([] : List Int).length cap', .int .i64 c]) ∧
      Own w' 3 1 (.slice ao' ([] : List Int).length cap') ([] : List Int).length (inC []) ∧ (∀ k, (Value.slice ao' ([] : List Int).length cap').ownBlock = some k → w.heap.size ≤ k) ∧ Below w.heap.size w w') := fun c w' hb => Lib.hid ⟨none, 0, rfl, Own.nil _ _ _, fun k hk => by simp [Value.ownBlock] at hk, bel_trans HB1.out hb.out⟩
  have HE := Lib.hid HE0
  clear HE0
  by_cases hbad : inputs < 0 ∨ 4194304 < inputs
  · have he : o = ([], 1) := by rw [ho]; unfold cofE; rw [if_pos hbad]
    subst he
    clear ho
    by_cases hn : inputs < 0
    · have hd : decide (inputs < 0) = true := by simpa using hn
      clear hbad hn
      go_wp2_with fail
      refine ⟨_, results_tmp2 rfl _ _ _, ?_⟩
      exact (HE.out 1 _ (Lib.hid (Below.refl _ _))).out
    · have hd : decide (inputs < 0) = false := by simpa using hn
      have hd2 : decide (4194304 < inputs) = true := by simp; omega
      clear hbad hn
      go_wp2_with fail
      refine ⟨_, results_tmp2 rfl _ _ _, ?_⟩
      exact (HE.out 1 _ (Lib.hid (Below.refl _ _))).out
  · obtain ⟨N, rfl⟩ : ∃ N : Nat, inputs = (N : Int) := ⟨inputs.toNat, by omega⟩
    have hN : N ≤ 4194304 := by omega
    have hd : decide ((N : Int) < 0) = false := by simp
    have hd2 : decide ((4194304 : Int) < (N : Int)) = false := by simp; omega
    have he : o = if fitsF N cl && fitsE last ((N : Int) + cl.length) then (coreE N cl last, 0) else ([], 4) := by
      rw [ho]
      unfold cofE
      rw [if_neg (by omega)]
      rfl
    clear hbad ho
    have HEo := Lib.hid he
    clear he
    go_wp2_with fail
    go_loopw [24] (fun i wr => ∃ k : Nat, k ≤ cl.length ∧ i = .int .i64 k ∧ Hid (Below w1.heap.size w1 wr) ∧ Hid (fitsF N cl = fitsF (N + k) (cl.drop k) ∧ ∀ j (h : j < cl.length), j < k → fitsE cl[j] (N + j) = true)) (fun i _ => cl.length - (intOf i).toNat)
    case atStart => exact ⟨0, by omega, rfl, Lib.hid (Below.refl _ _), Lib.hid ⟨by simp, fun j _ h => absurd h (Nat.not_lt_zero _)⟩⟩
    case round =>
      obtain ⟨k, hk, rfl, HBr, HFk⟩ := hrel
      have hcr : wr.cell? ⟨g0, 0, none⟩ = some (.int .i64 (N : Int)) := (bel_cell HBr.out hc0).trans hc0
      by_cases hlt : k < cl.length
      · have hki : (k : Int) < (cl.length : Int) := by omega
        have hRr := HR.out.below HBr.out
        obtain ⟨b, off, rfl, _, hcells⟩ := hRr.rows (by omega)
        have hck := hcells k hlt
        have hws : IntKind.i64.wrap ((N : Int) + (k : Int)) = (N : Int) + (k : Int) := sum_i64 (by omega) (by omega) (by omega) (by omega)
        have HFt := Lib.hid (fits_any cl[k] ((N : Int) + (k : Int)) (av k) (cv k) wr (by have := hrl _ (List.getElem_mem hlt); omega) (hRr.ints k hlt))
        have hfd := HFk.out.1
        rw [fitsF_drop hlt] at hfd
        have hfl := HFk.out.2
        clear hRr hcells HFk
        by_cases hf : fitsE cl[k] ((N : Int) + (k : Int)) = true
        · rw [hf] at HFt hfd
          rw [Bool.true_and] at hfd
          have HFd := Lib.hid (show fitsF N cl = fitsF (N + (k + 1 : Nat)) (cl.drop (k + 1)) ∧ ∀ j (h : j < cl.length), j < k + 1 → fitsE cl[j] (N + j) = true from ⟨hfd, fun j h hj => by
            rcases Nat.lt_succ_iff_lt_or_eq.1 hj with h1 | h1
            · exact hfl j h h1
            · subst h1; exact hf⟩)
          clear hf hfd hfl
          generalize cl[k] = c at *
          go_wp2_with (go_at_call 53; (with_reducible refine HFt.out.mono ?_); rintro e w2 ⟨rfl, hb2⟩)
          go_roundw
          case rel => exact ⟨k + 1, by omega, by go_num, Lib.hid (bel_trans HBr.out hb2), HFd⟩
          case measure => simp [intOf]; omega
        · have hf2 : fitsE cl[k] ((N : Int) + (k : Int)) = false := by simpa using hf
          rw [hf2] at HFt hfd
          rw [Bool.false_and] at hfd
          obtain rfl : o = ([], 4) := by rw [HEo.out, hfd]; rfl
          clear hf hf2 hfd hfl HEo
          generalize cl[k] = c at *
          go_wp2_with (go_at_call 53; (with_reducible refine HFt.out.mono ?_); rintro e w2 ⟨rfl, hb2⟩)
          refine ⟨_, results_tmp2 rfl _ _ _, ?_⟩
          exact (HE.out 4 _ (Lib.hid (bel_trans HBr.out hb2))).out
      · obtain rfl : k = cl.length := by omega
        have hfd : fitsF N cl = true := by rw [HFk.out.1, List.drop_length]; rfl
        have HFa := Lib.hid (show ∀ j (h : j < cl.length), fitsE cl[j] (N + j) = true from fun j h => HFk.out.2 j h h)
        have hws : IntKind.i64.wrap ((N : Int) + (cl.length : Int)) = (N : Int) + (cl.length : Int) := sum_i64 (by omega) (by omega) (by omega) (by omega)
        have HFt := Lib.hid (fits_any last ((N : Int) + (cl.length : Int)) al capl wr (by omega) (HL.out.below HBr.out))
        have he := HEo.out
        rw [hfd, Bool.true_and] at he
        clear HFk hfd
        by_cases hf : fitsE last ((N : Int) + (cl.length : Int)) = true
        · rw [hf] at HFt he
          rw [if_pos rfl] at he
          have HFl := Lib.hid (fitsE_mem hf)
          subst he
          clear hf HEo
          go_upto_region 11 with (go_at_call 53; (with_reducible refine HFt.out.mono ?_); rintro e w2 ⟨rfl, hb2⟩)
          have hb12 := bel_trans HBr.out hb2
          obtain ⟨m, hm⟩ : ∃ m, m = N + cl.length := ⟨_, rfl⟩
          have hml : m ≤ 5194304 := by omega
          have hwm : IntKind.i64.wrap ((N : Int) + (cl.length : Int)) = (m : Int) := by rw [hws, hm]; omega
          have hmk : ∀ W : World, Sem.run Try.prog (Instr.makeSlice 38 (.int .i64 (m : Int)) (.int .i64 (m : Int))) W = .ok (.slice (some ⟨W.heap.size, 0, none⟩) m m) (W.alloc (.cells (madeCells #[.bool false] m) 4)) := fun W => run_make_row' 38 4 (.bool false) 1 Try.underlying38 (by kernel_rfl) rfl .i64 .i64 m (by omega) (by omega) W
          have hc2 : w2.cell? ⟨g0, 0, none⟩ = some (.int .i64 (N : Int)) := (bel_cell hb12 hc0).trans hc0
          have HB2 := Lib.hid hb12
          have HM := Lib.hid hm
          clear hws hb12 hb2 HBr hcr hm
          go_upto_region 13 with fail
          obtain ⟨w3, hw3⟩ : ∃ w3, w3 = ((w2.alloc (.cells (madeCells #[.bool false] m) 4)).alloc (.cells #[.slice (some ⟨w2.heap.size, 0, none⟩) m m] 38)).alloc (.cells #[.func (.func 54) #[] #[.pointer (some ⟨w2.heap.size + 1, 0, none⟩)]] 91) := ⟨_, rfl⟩
          obtain ⟨hb3, hs3, k1, k2, k3⟩ := made3 hw3
          rw [← hw3]
          obtain ⟨gr, hgr⟩ : ∃ gr, gr = w2.heap.size := ⟨_, rfl⟩
          rw [← hgr] at k1 k2 k3 ⊢
          have hw1r : w1.heap.size ≤ gr := by rw [hgr]; exact HB2.out.size
          have hb13 : Below w1.heap.size w1 w3 := bel_trans HB2.out hb3
          obtain ⟨g1, hg1⟩ : ∃ g1, g1 = gr + 1 := ⟨_, rfl⟩
          obtain ⟨g2, hg2⟩ : ∃ g2, g2 = g1 + 1 := ⟨_, rfl⟩
          rw [← hg1] at k2 k3 ⊢
          rw [← hg2] at k3 ⊢
          have hg0l : g0 < w1.heap.size := HKB.out.lt
          have hw3s : w3.heap.size = gr + 3 := by rw [hs3, hgr]
          have HMk := Lib.hid (mark_any (List.replicate m false) last al capl g1 gr w3 (by omega) (fun h => by
            obtain ⟨b, off, e, hbl, hcs⟩ := HL.out h
            exact ⟨b, off, e, by have := hb13.size; omega, by omega, fun j hj => (World.cell?_of_block (w := w1) (hb13.block b hbl)).trans (hcs j hj)⟩) (by rw [List.length_replicate]; exact k2.cell 0) (by omega) k1 (fun x hx => by
            rw [List.length_replicate]
            have := HFl.out x hx
            have := HM.out
            omega))
          have hc2 : w3.cell? ⟨g2, 0, none⟩ = some (.func (.func 54) #[] #[.pointer (some ⟨g1, 0, none⟩)]) := k3.cell 0
          have K2 := Lib.hid k2
          have K3 := Lib.hid k3
          have HB3 := Lib.hid hb13
          have HX := Lib.hid (show w1.heap.size ≤ gr ∧ gr < g1 ∧ g1 < g2 ∧ g2 < w3.heap.size ∧ g0 < w1.heap.size from ⟨hw1r, by omega, by omega, by omega, hg0l⟩)
          clear hw3 hb3 hs3 k1 k2 k3 hgr hw1r hb13 hg1 hg2 hg0l hw3s hmk hwm
          go_upto_region 14 with (go_at_call 54; (with_reducible refine HMk.out.mono ?_); rintro e w4 ⟨⟨v4, rfl⟩, ht4, hk4⟩)
          have HT4 := Lib.hid ht4
          have HK4 := Lib.hid hk4
          have HBw := Lib.hid (callsIn_wide.1 (bwd_in Fence.wide 1 trivial rfl ao cl.length cap w4))
          clear ht4 hk4 HMk
          go_wp2_with (go_at_call 55; (with_reducible refine HBw.out.mono ?_); rintro e w5 ⟨rfl, hw5⟩)
          obtain ⟨w5, hw5⟩ : ∃ w5, w5 = w4.alloc (.cells #[.slice ao cl.length cap] 22) := ⟨_, rfl⟩
          rw [← hw5]
          obtain ⟨gb, hgb⟩ : ∃ gb, gb = w4.heap.size := ⟨_, rfl⟩
          rw [← hgb]
          have kB : Blk w5 gb 22 #[.slice ao cl.length cap] := by rw [hw5, hgb]; exact Blk.new w4 22 #[.slice ao cl.length cap]
          have hb45 : Below w4.heap.size w4 w5 := by rw [hw5]; exact (Below.refl _ _).alloc (Nat.le_refl _) _
          obtain ⟨x1, x2, x3, x4, x5⟩ := HX.out
          have ht5 : Touch (fun k => k = gr) w3 w5 := HT4.out.trans (Touch.of_below hb45 (fun _ => False)) fun _ _ f => f.elim
          have hs5 : w3.heap.size ≤ w5.heap.size := ht5.size
          obtain ⟨r0, hr0⟩ : ∃ r0, r0 = markE (List.replicate m false) last := ⟨_, rfl⟩
          have hr0l : r0.length = m := by rw [hr0, markE_len, List.length_replicate]
          have kr : Blk w5 gr 4 (boS r0).toArray := by rw [hr0]; exact HK4.out.below hb45 HK4.out.lt
          have c0 : w5.cell? ⟨g0, 0, none⟩ = some (.int .i64 (N : Int)) := ((ht5.cell (p := ⟨g0, 0, none⟩) (show g0 < w3.heap.size by omega) (show ¬ g0 = gr by omega)).trans (World.cell?_of_block (w := w1) (HB3.out.block g0 x5))).trans hc0
          have c1 : w5.cell? ⟨g1, 0, none⟩ = some (.slice (some ⟨gr, 0, none⟩) m m) := (ht5.cell (p := ⟨g1, 0, none⟩) (show g1 < w3.heap.size by omega) (show ¬ g1 = gr by omega)).trans (K2.out.cell 0)
          have c2 : w5.cell? ⟨g2, 0, none⟩ = some (.func (.func 54) #[] #[.pointer (some ⟨g1, 0, none⟩)]) := (ht5.cell (p := ⟨g2, 0, none⟩) (show g2 < w3.heap.size by omega) (show ¬ g2 = gr by omega)).trans (K3.out.cell 0)
          have hgbs : gb < w5.heap.size := kB.lt
          have hgbg : gb ≠ gr := by
            have := HT4.out.size
            omega
          have hrow5 : ∀ j (h : j < cl.length), 0 < cl[j].length → ∃ b off, av j = some ⟨b, off, none⟩ ∧ b < w1.heap.size ∧ ∀ i (h2 : i < cl[j].length), w5.cell? ⟨b, off + i, none⟩ = some (.int .i64 cl[j][i]) := fun j h h0 => by
            obtain ⟨b, off, e, hbl, hcs⟩ := HR.out.ints j h h0
            exact ⟨b, off, e, hbl, fun i h2 => ((ht5.cell (p := ⟨b, off + i, none⟩) (show b < w3.heap.size by omega) (show ¬ b = gr by omega)).trans (World.cell?_of_block (w := w1) (HB3.out.block b hbl))).trans (hcs i h2)⟩
          have hrows5 : 0 < cl.length → ∃ b off, ao = some ⟨b, off, none⟩ ∧ b < w5.heap.size ∧ b ≠ gr ∧ ∀ j (h : j < cl.length), w5.cell? ⟨b, off + j, none⟩ = some (.slice (av j) cl[j].length (cv j)) := fun h0 => by
            obtain ⟨b, off, e, hbl, hcs⟩ := HR.out.rows h0
            exact ⟨b, off, e, by omega, by omega, fun j h => ((ht5.cell (p := ⟨b, off + j, none⟩) (show b < w3.heap.size by omega) (show ¬ b = gr by omega)).trans (World.cell?_of_block (w := w1) (HB3.out.block b hbl))).trans (hcs j h)⟩
          have hst := bwd_stops Fence.wide 4 trivial rfl (by omega) gb gr ao cap cl av cv w5 (by omega) hgbs hgbg (kB.cell 0) hrows5
          have HRw := Lib.hid hrow5
          have hrl' : ∀ j (h : j < cl.length), cl[j].length ≤ 9223372036854775807 := fun j h => hrl _ (List.getElem_mem h)
          have HBt := Lib.hid (show Below w.heap.size w w3 from bel_trans HB1.out HB3.out)
          have HT5 := Lib.hid ht5
          clear hrow5 hrows5 ht5 hw5 hgb kB hb45
          have hm1 : gr < w5.heap.size := kr.lt
          refine wpIn_wide.1 (wpIn_rangeFunc_ownG (F := Fence.wide) (n := 5) rfl (by omega) (gf := 71) (lb := #[.pointer (some ⟨gb, 0, none⟩)]) rfl trivial (enters_of Try.func71 (by kernel_rfl) rfl) hst KpB.t (KpB.b (Nat.le_refl _)) (Below.refl _ _) (fun _ => rfl)
            (fun pre W => Blk W gr 4 (boS (backE N cl r0 (pre.map Fin.val))).toArray ∧ KpB gr w5.heap.size w5 W) (fun _ _ _ => False)
            (fun s A B row hs hg hr => ⟨blk_walk hs.1 hg hr, hs.2.t (Touch.of_grown hg fun k e => .inr (hr k e).1)⟩)
            (fun _ _ _ _ _ hs _ _ => hs) ⟨kr, Touch.refl _ _⟩ ?a1 ?assign ?body ?done ?stop)
          case assign =>
            intro l x W K hK
            gi_wp2
            exact hK
          case body =>
            rintro l pre ⟨j, hj⟩ W ⟨hbk, hk⟩ _
            have d0 := (hk.cell (show g0 < w5.heap.size by omega) (by omega) (Nat.le_refl _) 0).trans c0
            have d1 := (hk.cell (show g1 < w5.heap.size by omega) (by omega) (Nat.le_refl _) 0).trans c1
            have d2 := (hk.cell (show g2 < w5.heap.size by omega) (by omega) (Nat.le_refl _) 0).trans c2
            obtain ⟨r, hr⟩ : ∃ r, r = backE N cl r0 (pre.map Fin.val) := ⟨_, rfl⟩
            rw [← hr] at hbk
            have hrl : r.length = m := by rw [hr, backE_len, hr0l]
            obtain ⟨y, hy⟩ : ∃ y, y = N + j := ⟨_, rfl⟩
            have hyw : IntKind.i64.wrap ((N : Int) + (j : Int)) = (y : Int) := by rw [sum_i64 (by omega) (by omega) (by omega) (by omega), hy]; omega
            have hym : y < m := by have := HM.out; omega
            have hyi : (y : Int) < (m : Int) := by omega
            have hcy : W.cell? ⟨gr, y, none⟩ = some (.bool (r[y]'(by omega))) := by
              rw [hbk.cell y]
              simp [boS, hrl, hym]
            have hnext : backE N cl r0 ((pre ++ [(⟨j, hj⟩ : Fin cl.length)]).map Fin.val) = if r[y]'(by omega) then markE r cl[j] else r := by
              rw [List.map_append]
              show backE N cl r0 (pre.map Fin.val ++ [j]) = _
              rw [backE_snoc, ← hr, ← hy, List.getD_eq_getElem?_getD, List.getElem?_eq_getElem (by omega), List.getD_eq_getElem?_getD, List.getElem?_eq_getElem hj]
              rfl
            have HMk := Lib.hid (mark_any r cl[j] (av j) (cv j) g1 gr W (by have := hrl' j hj; omega) (fun h0 => by
              obtain ⟨b, off, e, hbl, hcs⟩ := HRw.out j hj h0
              exact ⟨b, off, e, by have := hk.size; omega, by omega, fun i h2 => (hk.cell (show b < w5.heap.size by omega) (by omega) (Nat.le_refl _) _).trans (hcs i h2)⟩) (by rw [hrl]; exact d1) (by omega) hbk (fun z hz => by
              have h1 := fitsE_mem (HFa.out j hj) z hz
              have := HM.out
              omega))
            generalize r[y]'(by omega) = bit at *
            have HN2 := Lib.hid hnext
            have HBk := Lib.hid hbk
            have HK := Lib.hid hk
            clear hnext hbk hk hr hy hrl
            dsimp only
            cases bit with
            | true =>
              gi_wp2_with (refine ⟨trivial, ?_⟩; gi_at_call 54; refine (CallsIn.inRound l (callsIn_wide.2 HMk.out)).mono ?_; rintro e W' ⟨⟨v, rfl⟩, ht, hbk'⟩)
              refine ⟨keeps_of ht HBk.out _, ht.mono (fun k _ e => .inl e), ?_, HK.out.t (ht.mono (fun k _ e => .inl e))⟩
              rw [HN2.out, if_pos trivial]
              exact hbk'
            | false =>
              gi_wp2
              refine ⟨KeepsFrom.refl _ _, Touch.refl _ _, ?_, HK.out⟩
              rw [HN2.out, if_neg (by simp)]
              exact HBk.out
          case done =>
            rintro D ys W hD hS ⟨hbk, hk⟩ hKD
            rw [hS] at hbk
            obtain ⟨R, hR⟩ : ∃ R, R = backE N cl r0 (List.range cl.length).reverse := ⟨_, rfl⟩
            rw [← hR] at hbk
            have hRl : R.length = m := by rw [hR, backE_len, hr0l]
            have hRm : coreE N cl last = outE R N := by
              have : R = marksE N cl last := by rw [hR, hr0, HM.out]; rfl
              rw [this]
              rfl
            have d0 := (hk.cell (show g0 < w5.heap.size by omega) (by omega) (Nat.le_refl _) 0).trans c0
            have d1 := (hk.cell (show g1 < w5.heap.size by omega) (by omega) (Nat.le_refl _) 0).trans c1
            have hwg : w.heap.size ≤ gr := by have := HB1.out.size; omega
            have hbW : Below w.heap.size w W := (HBt.out.trans (HT5.out.below HBt.out.size fun k h e => by
              have : k = gr := e
              omega)).trans (hk.below (by have := HBt.out.size; omega) fun k h e => by
              have := HBt.out.size
              rcases e with e | e <;> omega)
            have hNm : N ≤ m := by have := HM.out; omega
            have HBW := Lib.hid hbW
            have HRm := Lib.hid hRm
            have HRl := Lib.hid hRl
            have HBk := Lib.hid hbk
            have HKD := Lib.hid hKD
            have HDl := Lib.hid (show D < W.heap.size ∧ w.heap.size ≤ D from ⟨(Array.getElem?_eq_some_iff.1 hKD).1, by have := HBt.out.size; omega⟩)
            obtain ⟨i3, hi3, hz0, hz1, hz2⟩ := info_parts (P := Try.prog) (e := 3) (z := .int .i64 0) (size := 1) (bytes := 8) (by kernel_rfl)
            clear hS hbk hk hKD hR hr0 hRl hRm hbW hD c0 c1 c2 hr0l kr hst
            go_wp2_with fail
            go_loopw [14, 66] (fun s i wr => ∃ (j k : Nat) (a : Option Addr) (c : Nat), j ≤ N ∧ k ≤ j ∧ i = .int .i64 j ∧ s = .slice a k c ∧ Hid (k = (outE R j).length ∧ Own wr 3 1 (.slice a k c) k (inC (outE R j)) ∧ (∀ b, (Value.slice a k c).ownBlock = some b → W.heap.size ≤ b) ∧ Below W.heap.size W wr)) (fun _ i _ => N - (intOf i).toNat)
            case atStart => exact ⟨0, 0, none, 0, by omega, by omega, rfl, rfl, Lib.hid ⟨by simp [outE], Own.nil _ _ _, fun k hk => by simp [Value.ownBlock] at hk, Below.refl _ _⟩⟩
            case round =>
              obtain ⟨j, k, a, c, hj, hkj, rfl, rfl, HO⟩ := hrel
              have e0 := (bel_cell HO.out.2.2.2 d0).trans d0
              have e1 := (bel_cell HO.out.2.2.2 d1).trans d1
              by_cases hjt : j < N
              · have hji : (j : Int) < (N : Int) := by omega
                have hjm : (j : Int) < (m : Int) := by omega
                have hRj : j < R.length := by rw [HRl.out]; omega
                have hcj : wr.cell? ⟨gr, j, none⟩ = some (.bool (R[j]'hRj)) := by
                  have h1 : W.cell? ⟨gr, j, none⟩ = some (.bool (R[j]'hRj)) := by
                    rw [HBk.out.cell j]
                    simp [boS, hRj]
                  exact (bel_cell HO.out.2.2.2 h1).trans h1
                have hout : outE R (j + 1) = if R[j]'hRj then outE R j ++ [(j : Int)] else outE R j := by
                  rw [outE_succ, List.getD_eq_getElem?_getD, List.getElem?_eq_getElem hRj]
                  rfl
                generalize R[j]'hRj = bit at *
                have HOut := Lib.hid hout
                clear hout hRj
                cases bit with
                | true =>
                  have HO1 := Lib.hid (HO.out.2.1.alloc (.cells #[.int .i64 (j : Int)] 3))
                  have hone := in_one (outE R j)
                  go_wp2_with (first
                    | (at_builtin; refine wpList_append_S _ rfl (.tmp 73) (.tmp 75) _ _ rfl 3 i3 _ 1 8 Try.underlying26 hi3 hz0 hz1 hz2 rfl (by omega) (.slice a k c) k (inC (outE R j)) rfl HO1.out hone _ 1 [_] rfl (src_new wr Try.underlying26 3 _ rfl) (by simp only [maxLen]; omega) (by omega) ?_; intro ao2 cap2 w6 hn2 hm2 hown2 hg2 hat2 hlt2
                       have H6 := Lib.hid (out_snoc HO.out.2.2.2 HO.out.2.2.1 hg2 hat2)
                       have HO2 := Lib.hid hown2
                       clear hown2 hg2 hat2 hlt2 hn2 hm2)
                    | fail)
                  go_roundw
                  case rel =>
                    have h5 := HOut.out
                    rw [if_pos (by first | rfl | trivial)] at h5
                    refine ⟨j + 1, k + 1, _, _, by omega, by omega, by go_num, rfl, Lib.hid ⟨?_, ?_, H6.out.1, H6.out.2⟩⟩
                    · rw [h5, List.length_append, ← HO.out.1]; rfl
                    · have h6 := HO2.out
                      rw [h5]
                      unfold inC at h6 ⊢
                      rw [List.map_append]
                      exact h6
                  case measure => simp [intOf]; omega
                | false =>
                  go_wp2_with fail
                  go_roundw
                  case rel =>
                    have h5 := HOut.out
                    rw [if_neg (by simp)] at h5
                    exact ⟨j + 1, k, _, _, by omega, by omega, by go_num, rfl, Lib.hid (by rw [h5]; exact HO.out)⟩
                  case measure => simp [intOf]; omega
              · obtain rfl : j = N := by omega
                go_wp2_with fail
                have hKD := (HO.out.2.2.2.block D HDl.out.1).trans HKD.out
                refine ⟨by simp, .inl ⟨_, _, rfl, run_takeDeferred hKD, ?_⟩⟩
                refine ⟨_, results_tmp2 rfl _ _ _, ?_⟩
                rw [HRm.out, ← HO.out.1]
                refine ⟨a, c, rfl, HO.out.2.1.keep fun b hb => World.putObj_heap_other (by
                  have := HO.out.2.2.1 b hb
                  have := HDl.out.1
                  omega), fun b hb => Nat.le_trans HBW.out.size (HO.out.2.2.1 b hb), ?_⟩
                exact (HBW.out.trans (HO.out.2.2.2.mono HBW.out.size)).trans (belowK_b (w := w) (Nat.le_refl _) wr D _ _ HDl.out.2 hKD rfl rfl)
          case stop =>
            rintro D c pre W _ _ h _
            exact h.elim
        · have hf2 : fitsE last ((N : Int) + (cl.length : Int)) = false := by simpa using hf
          rw [hf2] at HFt he
          obtain rfl : o = ([], 4) := by rw [he]; rfl
          clear hf hf2 he HEo
          go_wp2_with (go_at_call 53; (with_reducible refine HFt.out.mono ?_); rintro e w2 ⟨rfl, hb2⟩)
          refine ⟨_, results_tmp2 rfl _ _ _, ?_⟩
          exact (HE.out 4 _ (Lib.hid (bel_trans HBr.out hb2))).out

end Go.Proofs.Ythinopiobihmaaa

namespace Go.Proofs.Ythinopiobihmaaa
set_option maxRecDepth 100000

def putE : List Int → Int → List Int
  | [], n => [n]
  | x :: xs, n => if x < n then x :: putE xs n else if x = n then x :: xs else n :: x :: xs

theorem putE_len : ∀ (l : List Int) (n : Int), (putE l n).length ≤ l.length + 1
  | [], n => by simp [putE]
  | x :: xs, n => by
    unfold putE
    have := putE_len xs n
    split
    · simpa using this
    · split <;> simp

/-! ### Lists that rise -/
theorem rise_ext : ∀ {a b : List Int} (_ : a.Pairwise (· < ·)) (_ : b.Pairwise (· < ·)) (_ : ∀ x, x ∈ a ↔ x ∈ b), a = b
  | [], [], _, _, _ => rfl
  | [], y :: b, _, _, h => absurd ((h y).2 (by simp)) (by simp)
  | x :: a, [], _, _, h => absurd ((h x).1 (by simp)) (by simp)
  | x :: a, y :: b, h1, h2, h => by
    rw [List.pairwise_cons] at h1 h2
    have hxy : x = y := by
      rcases List.mem_cons.1 ((h x).1 (by simp)) with e | e
      · exact e
      · rcases List.mem_cons.1 ((h y).2 (by simp)) with e2 | e2
        · exact e2.symm
        · have := h1.1 y e2
          have := h2.1 x e
          omega
    subst hxy
    rw [rise_ext h1.2 h2.2 fun z => ?_]
    constructor
    · intro hz
      rcases List.mem_cons.1 ((h z).1 (by simp [hz])) with e | e
      · have := h1.1 z hz
        omega
      · exact e
    · intro hz
      rcases List.mem_cons.1 ((h z).2 (by simp [hz])) with e | e
      · have := h2.1 z hz
        omega
      · exact e
theorem putE_mem : ∀ (l : List Int) (n x : Int), x ∈ putE l n ↔ x ∈ l ∨ x = n
  | [], n, x => by simp [putE]
  | y :: l, n, x => by
    unfold putE
    split
    · rw [List.mem_cons, putE_mem l n x, List.mem_cons, or_assoc]
    · split
      · rename_i h
        subst h
        simp
        exact fun h => .inl h
      · simp only [List.mem_cons]
        constructor
        · rintro (h | h | h)
          · exact .inr h
          · exact .inl (.inl h)
          · exact .inl (.inr h)
        · rintro ((h | h) | h)
          · exact .inr (.inl h)
          · exact .inr (.inr h)
          · exact .inl h
theorem putE_rise : ∀ {l : List Int} {n : Int} (_ : l.Pairwise (· < ·)), (putE l n).Pairwise (· < ·)
  | [], n, _ => by simp [putE]
  | y :: l, n, h => by
    rw [List.pairwise_cons] at h
    unfold putE
    split
    · rename_i hy
      rw [List.pairwise_cons]
      refine ⟨fun z hz => ?_, putE_rise h.2⟩
      rcases (putE_mem l n z).1 hz with e | e
      · exact h.1 z e
      · omega
    · split
      · rw [List.pairwise_cons]
        exact h
      · rw [List.pairwise_cons, List.pairwise_cons]
        refine ⟨fun z hz => ?_, h⟩
        rcases List.mem_cons.1 hz with e | e
        · omega
        · have := h.1 z e
          omega

/-! ### What the document tells -/
def putsE (out l : List Int) : List Int := l.foldl putE out
theorem putsE_mem (l : List Int) : ∀ (out : List Int) (x : Int), x ∈ putsE out l ↔ x ∈ out ∨ x ∈ l := by
  induction l with
  | nil => intro out x; simp [putsE]
  | cons y l ih =>
    intro out x
    refine (ih _ x).trans ?_
    rw [putE_mem, List.mem_cons, or_assoc]
theorem putsE_rise (l : List Int) : ∀ {out : List Int}, out.Pairwise (· < ·) → (putsE out l).Pairwise (· < ·) := by
  induction l with
  | nil => exact fun h => h
  | cons y l ih => exact fun h => ih (putE_rise h)
def restOne (rests : List (List Int)) (N : Nat) (out : List Int) (y : Int) : List Int := if y < N then putE out y else putsE out (rests.getD (y.toNat - N) [])
def restE (rests : List (List Int)) (N : Nat) (l : List Int) : List Int := l.foldl (restOne rests N) []
def restsE (N : Nat) (cl : List (List Int)) : List (List Int) := cl.foldl (fun rs c => rs ++ [restE rs N c]) []
theorem restsE_snoc (N : Nat) (cl : List (List Int)) (c : List Int) : restsE N (cl ++ [c]) = restsE N cl ++ [restE (restsE N cl) N c] := by
  unfold restsE
  rw [List.foldl_append]
  rfl
theorem restsE_len (N : Nat) : ∀ cl : List (List Int), (restsE N cl).length = cl.length := fun cl => by
  have h : ∀ (cl rs : List (List Int)), (cl.foldl (fun rs c => rs ++ [restE rs N c]) rs).length = rs.length + cl.length := by
    intro cl
    induction cl with
    | nil => intro rs; rfl
    | cons c cl ih => intro rs; refine (ih _).trans ?_; simp; omega
  refine (h cl []).trans ?_
  simp
theorem restOne_mem (rests : List (List Int)) (N : Nat) (out : List Int) (y x : Int) : x ∈ restOne rests N out y ↔ x ∈ out ∨ (y < N ∧ x = y) ∨ (¬ y < N ∧ x ∈ rests.getD (y.toNat - N) []) := by
  unfold restOne
  by_cases h : y < N
  · rw [if_pos h, putE_mem]
    simp [h]
  · rw [if_neg h, putsE_mem]
    simp [h]
theorem restE_mem (rests : List (List Int)) (N : Nat) (l : List Int) (x : Int) : x ∈ restE rests N l ↔ ∃ y ∈ l, (y < N ∧ x = y) ∨ (¬ y < N ∧ x ∈ rests.getD (y.toNat - N) []) := by
  have h : ∀ (l out : List Int), x ∈ l.foldl (restOne rests N) out ↔ x ∈ out ∨ ∃ y ∈ l, (y < N ∧ x = y) ∨ (¬ y < N ∧ x ∈ rests.getD (y.toNat - N) []) := by
    intro l
    induction l with
    | nil => intro out; simp
    | cons y l ih =>
      intro out
      refine (ih _).trans ?_
      rw [restOne_mem, or_assoc]
      simp only [List.mem_cons, exists_eq_or_imp]
  refine (h l []).trans ?_
  simp
theorem restE_rise (rests : List (List Int)) (N : Nat) (l : List Int) : (restE rests N l).Pairwise (· < ·) := by
  have h : ∀ (l : List Int) {out : List Int}, out.Pairwise (· < ·) → (l.foldl (restOne rests N) out).Pairwise (· < ·) := by
    intro l
    induction l with
    | nil => exact fun h => h
    | cons y l ih =>
      intro out h
      refine ih ?_
      unfold restOne
      split
      · exact putE_rise h
      · exact putsE_rise _ h
  exact h l List.Pairwise.nil

/-! ### On what a number rests -/
inductive Rests (N : Nat) (cl : List (List Int)) (n : Int) : Int → Prop
  | base (h0 : 0 ≤ n) (h1 : n < N) : Rests N cl n n
  | step (k : Nat) (h : k < cl.length) (y : Int) (hy : y ∈ cl[k]) (hr : Rests N cl n y) : Rests N cl n (N + k)
theorem Rests.low {N : Nat} {cl : List (List Int)} {n y : Int} (h : Rests N cl n y) (hy : y < N) : n = y := by
  cases h with
  | base => rfl
  | step k => omega
theorem Rests.range {N : Nat} {cl : List (List Int)} {n y : Int} (h : Rests N cl n y) : 0 ≤ n ∧ n < N := by
  induction h with
  | base h0 h1 => exact ⟨h0, h1⟩
  | step k h y hy hr ih => exact ih
theorem Rests.high {N : Nat} {cl : List (List Int)} {n : Int} {k : Nat} (hk : k < cl.length) : Rests N cl n ((N : Int) + k) ↔ ∃ y ∈ cl[k], Rests N cl n y := by
  constructor
  · intro h
    generalize hz : (N : Int) + k = z at h
    cases h with
    | base h0 h1 => omega
    | step k2 h2 y hy hr =>
      obtain rfl : k = k2 := by omega
      exact ⟨y, hy, hr⟩
  · rintro ⟨y, hy, hr⟩
    exact .step k hk y hy hr
/-- The numbers of a rests behind it rest on nothing of what comes. -/
theorem Rests.more {N : Nat} {cl : List (List Int)} (c : List Int) {n y : Int} (h : Rests N cl n y) : Rests N (cl ++ [c]) n y := by
  induction h with
  | base h0 h1 => exact .base h0 h1
  | step k h y hy hr ih => exact .step k (by simp; omega) y (by rw [List.getElem_append_left h]; exact hy) ih
theorem Rests.less {N : Nat} {cl : List (List Int)} (hf : ∀ j (h : j < cl.length), ∀ x ∈ cl[j], x < N + j) (c : List Int) {n y : Int} (h : Rests N (cl ++ [c]) n y) : y < N + cl.length → Rests N cl n y := by
  induction h with
  | base h0 h1 => exact fun _ => .base h0 h1
  | step k h y hy hr ih =>
    intro hlt
    have hk : k < cl.length := by omega
    rw [List.getElem_append_left hk] at hy
    have := hf k hk y hy
    exact .step k hk y hy (ih (by omega))

theorem rests_spec {N : Nat} {cl : List (List Int)} (hf : ∀ j (h : j < cl.length), ∀ x ∈ cl[j], 0 ≤ x ∧ x < N + j) : ∀ k, k ≤ cl.length → ∀ j, j < k → ∀ x, x ∈ (restsE N (cl.take k)).getD j [] ↔ Rests N cl x (N + j) := by
  intro k
  induction k with
  | zero => exact fun _ j h => absurd h (Nat.not_lt_zero _)
  | succ k ih =>
    intro hk j hj x
    have hkl : k < cl.length := by omega
    rw [List.take_succ_eq_append_getElem hkl, restsE_snoc]
    have hlen : (restsE N (cl.take k)).length = k := by rw [restsE_len, List.length_take]; omega
    by_cases h : j < k
    · rw [List.getD_eq_getElem?_getD, List.getElem?_append_left (by omega), ← List.getD_eq_getElem?_getD]
      exact ih (by omega) j h x
    · obtain rfl : j = k := by omega
      rw [List.getD_eq_getElem?_getD, List.getElem?_append_right (by omega), hlen, Nat.sub_self]
      show x ∈ restE _ N cl[j] ↔ _
      rw [restE_mem, Rests.high hkl]
      constructor
      · rintro ⟨y, hy, h1 | h1⟩
        · obtain ⟨h2, rfl⟩ := h1
          exact ⟨x, hy, .base (hf j hkl x hy).1 h2⟩
        · refine ⟨y, hy, ?_⟩
          have h3 := hf j hkl y hy
          have h4 := (ih (by omega) (y.toNat - N) (by omega) x).1 h1.2
          rwa [show ((N : Int) + ((y.toNat - N : Nat) : Int)) = y by omega] at h4
      · rintro ⟨y, hy, hr⟩
        refine ⟨y, hy, ?_⟩
        have h3 := hf j hkl y hy
        by_cases h2 : y < N
        · exact .inl ⟨h2, hr.low h2⟩
        · refine .inr ⟨h2, (ih (by omega) (y.toNat - N) (by omega) x).2 ?_⟩
          rwa [show ((N : Int) + ((y.toNat - N : Nat) : Int)) = y by omega]
theorem rest_mem {N : Nat} {cl : List (List Int)} {last : List Int} (hf : ∀ j (h : j < cl.length), ∀ x ∈ cl[j], 0 ≤ x ∧ x < N + j) (hl : ∀ x ∈ last, 0 ≤ x ∧ x < N + cl.length) (x : Int) :
    x ∈ restE (restsE N cl) N last ↔ ∃ y ∈ last, Rests N cl x y := by
  have hs := rests_spec hf cl.length (Nat.le_refl _)
  rw [List.take_length] at hs
  rw [restE_mem]
  constructor
  · rintro ⟨y, hy, h1 | h1⟩
    · obtain ⟨h2, rfl⟩ := h1
      exact ⟨x, hy, .base (hl x hy).1 h2⟩
    · refine ⟨y, hy, ?_⟩
      have h3 := hl y hy
      have h4 := (hs (y.toNat - N) (by omega) x).1 h1.2
      rwa [show ((N : Int) + ((y.toNat - N : Nat) : Int)) = y by omega] at h4
  · rintro ⟨y, hy, hr⟩
    refine ⟨y, hy, ?_⟩
    have h3 := hl y hy
    by_cases h2 : y < N
    · exact .inl ⟨h2, hr.low h2⟩
    · refine .inr ⟨h2, (hs (y.toNat - N) (by omega) x).2 ?_⟩
      rwa [show ((N : Int) + ((y.toNat - N : Nat) : Int)) = y by omega]

/-! ### What Of marks -/
theorem markE_get (l : List Int) : ∀ (r : List Bool), (∀ x ∈ l, 0 ≤ x ∧ x < r.length) → ∀ y : Nat, (markE r l).getD y false = true ↔ r.getD y false = true ∨ (y : Int) ∈ l := by
  induction l with
  | nil => intro r _ y; simp [markE]
  | cons x l ih =>
    intro r hf y
    have h1 := ih (r.set x.toNat true) (fun z hz => by rw [List.length_set]; exact hf z (List.mem_cons_of_mem _ hz)) y
    refine h1.trans ?_
    have hx := hf x (by simp)
    rw [List.mem_cons, ← or_assoc]
    refine or_congr_left ?_
    rw [List.getD_eq_getElem?_getD, List.getD_eq_getElem?_getD, List.getElem?_set]
    by_cases e : x.toNat = y
    · rw [if_pos e, if_pos (by omega)]
      simp
      exact .inr (by omega)
    · rw [if_neg e]
      constructor
      · exact fun h => .inl h
      · rintro (h | h)
        · exact h
        · omega
theorem marks_inv {N : Nat} {cl : List (List Int)} {last : List Int} (hf : ∀ j (h : j < cl.length), ∀ x ∈ cl[j], 0 ≤ x ∧ x < N + j) (hl : ∀ x ∈ last, 0 ≤ x ∧ x < N + cl.length) (r0 : List Bool) (hr0 : r0 = markE (List.replicate (N + cl.length) false) last) (x : Int) :
    ∀ d q, d + q = cl.length → ((∃ y : Nat, y < N + q ∧ (backE N cl r0 (downL cl.length q)).getD y false = true ∧ Rests N cl x y) ↔ ∃ y ∈ last, Rests N cl x y) := by
  have hr0l : r0.length = N + cl.length := by rw [hr0, markE_len, List.length_replicate]
  intro d
  induction d with
  | zero =>
    intro q hq
    obtain rfl : q = cl.length := by omega
    rw [downL_end]
    show (∃ y : Nat, y < N + cl.length ∧ r0.getD y false = true ∧ Rests N cl x y) ↔ _
    have hg : ∀ y : Nat, r0.getD y false = true ↔ (y : Int) ∈ last := fun y => by
      rw [hr0, markE_get _ _ (fun z hz => by rw [List.length_replicate]; have := hl z hz; omega) y]
      simp [List.getD_eq_getElem?_getD, List.getElem?_replicate]
      intro h
      split at h <;> simp at h
    constructor
    · rintro ⟨y, _, h1, h2⟩
      exact ⟨y, (hg y).1 h1, h2⟩
    · rintro ⟨y, h1, h2⟩
      have h3 := hl y h1
      refine ⟨y.toNat, by omega, (hg _).2 ?_, ?_⟩
      · rwa [show ((y.toNat : Nat) : Int) = y by omega]
      · rwa [show ((y.toNat : Nat) : Int) = y by omega]
  | succ d ih =>
    intro p hp
    have hpl : p < cl.length := by omega
    have hi := ih (p + 1) (by omega)
    rw [← hi, downL_step hpl, backE_snoc]
    generalize hr : backE N cl r0 (downL cl.length (p + 1)) = r
    have hrl : r.length = N + cl.length := by rw [← hr, backE_len, hr0l]
    have hcl : cl.getD p [] = cl[p] := by rw [List.getD_eq_getElem?_getD, List.getElem?_eq_getElem hpl]; rfl
    rw [hcl]
    have hm := markE_get cl[p] r (fun z hz => by have := hf p hpl z hz; omega)
    constructor
    · rintro ⟨y, h1, h2, h3⟩
      by_cases hb : r.getD (N + p) false = true
      · rw [if_pos hb] at h2
        rcases (hm y).1 h2 with h4 | h4
        · exact ⟨y, by omega, h4, h3⟩
        · exact ⟨N + p, by omega, hb, by rw [show (((N + p : Nat)) : Int) = (N : Int) + p by omega]; exact .step p hpl y h4 h3⟩
      · rw [if_neg hb] at h2
        exact ⟨y, by omega, h2, h3⟩
    · rintro ⟨y, h1, h2, h3⟩
      by_cases h4 : y < N + p
      · refine ⟨y, h4, ?_, h3⟩
        split
        · exact (hm y).2 (.inl h2)
        · exact h2
      · obtain rfl : y = N + p := by omega
        rw [show (((N + p : Nat)) : Int) = (N : Int) + p by omega, Rests.high hpl] at h3
        obtain ⟨z, hz, hzr⟩ := h3
        have h5 := hf p hpl z hz
        refine ⟨z.toNat, by omega, ?_, ?_⟩
        · rw [if_pos h2]
          exact (hm _).2 (.inr (by rwa [show ((z.toNat : Nat) : Int) = z by omega]))
        · rwa [show ((z.toNat : Nat) : Int) = z by omega]

theorem outE_mem (r : List Bool) (m : Nat) (x : Int) : x ∈ outE r m ↔ 0 ≤ x ∧ x < m ∧ r.getD x.toNat false = true := by
  unfold outE
  rw [List.mem_map]
  constructor
  · rintro ⟨n, hn, rfl⟩
    rw [List.mem_filter, List.mem_range] at hn
    refine ⟨by simp, ?_, ?_⟩
    · have := hn.1
      simp
      omega
    · simpa using hn.2
  · rintro ⟨h0, h1, h2⟩
    refine ⟨x.toNat, ?_, by simp; omega⟩
    rw [List.mem_filter, List.mem_range]
    exact ⟨by omega, by simpa using h2⟩
theorem outE_rise (r : List Bool) (m : Nat) : (outE r m).Pairwise (· < ·) := by
  unfold outE
  rw [List.pairwise_map]
  refine List.Pairwise.imp ?_ (List.Pairwise.filter _ List.pairwise_lt_range)
  intro a b h
  exact Int.ofNat_lt.2 h

theorem core_mem {N : Nat} {cl : List (List Int)} {last : List Int} (hf : ∀ j (h : j < cl.length), ∀ x ∈ cl[j], 0 ≤ x ∧ x < N + j) (hl : ∀ x ∈ last, 0 ≤ x ∧ x < N + cl.length) (x : Int) :
    x ∈ coreE N cl last ↔ ∃ y ∈ last, Rests N cl x y := by
  have h := marks_inv hf hl _ rfl x cl.length 0 (by omega)
  rw [← h, downL_zero]
  unfold coreE
  rw [outE_mem]
  show (_ ∧ _ ∧ (marksE N cl last).getD _ _ = true) ↔ _
  constructor
  · rintro ⟨h0, h1, h2⟩
    refine ⟨x.toNat, by omega, h2, ?_⟩
    rw [show ((x.toNat : Nat) : Int) = x by omega]
    exact .base h0 h1
  · rintro ⟨y, h1, h2, h3⟩
    obtain rfl := h3.low (by omega)
    exact ⟨by omega, by omega, h2⟩
/-- What Of tells is what the document tells. -/
theorem core_rest {N : Nat} {cl : List (List Int)} {last : List Int} (hf : ∀ j (h : j < cl.length), ∀ x ∈ cl[j], 0 ≤ x ∧ x < N + j) (hl : ∀ x ∈ last, 0 ≤ x ∧ x < N + cl.length) : restE (restsE N cl) N last = coreE N cl last :=
  rise_ext (restE_rise _ _ _) (outE_rise _ _) fun x => by rw [rest_mem hf hl, core_mem hf hl]

end Go.Proofs.Ythinopiobihmaaa
