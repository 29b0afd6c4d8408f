/- ShapeNames' table, the region whole. Conditions: as each theorem names them. -/
import Derived.Test.YtadogjnoklabdaaDoorH47
namespace Go.Proofs.YtadogjnoklabdaaDoor
open Go.ChangeShapes Go.WideShapes Go.ChangeAt Go.RowKit Go.Deep
set_option maxRecDepth 100000

theorem ready_all {ops : Array Oper} {listed : Array Bool} (hlow : (ops.toList.zipIdx.all fun x => x.1.after.all fun e => decide (e.on < x.2)) = true) (hsz : listed.size = ops.size) (hr : Region.ready .any ops listed = []) : ∀ i, i < ops.size → listed.getD i false = true := by
  intro i
  induction i using Nat.strongRecOn with
  | _ i ih =>
    intro hi
    have hi2 : i < listed.size := by omega
    cases hb : listed[i] with
    | true => simp [Array.getD_eq_getD_getElem?, hi2, hb]
    | false =>
      exfalso
      have hmem : i ∈ Region.ready .any ops listed := by
        unfold Region.ready
        refine List.mem_filter.2 ⟨List.mem_range.2 hi, ?_⟩
        rw [Bool.and_eq_true]
        refine ⟨by simp [Array.getD_eq_getD_getElem?, hi2, hb], ?_⟩
        rw [Array.getElem?_eq_getElem hi]
        simp only [Option.map_some, Option.getD_some]
        rw [Array.all_eq_true_iff_forall_mem]
        intro e he
        rw [List.all_eq_true] at hlow
        have h1 := hlow (ops[i], i) (by
          refine List.mem_of_getElem? (i := i) ?_
          rw [List.getElem?_zipIdx, Array.getElem?_toList, Array.getElem?_eq_getElem hi]
          simp)
        rw [Array.all_eq_true_iff_forall_mem] at h1
        have h2 : e.on < i := by simpa using h1 e he
        rw [ih e.on h2 (by omega)]
        simp
      rw [hr] at hmem
      cases hmem
theorem frm_split (L : List Value) : frm (L.take 38) ((L.drop 38).take 135) (L.drop 173) = { tmps := L.toArray, defers := [] } := by
  unfold frm
  have h : L.take 38 ++ (L.drop 38).take 135 ++ L.drop 173 = L := by
    have h1 : (L.drop 38).take 135 ++ L.drop 173 = L.drop 38 := by
      rw [show L.drop 173 = (L.drop 38).drop 135 from by rw [List.drop_drop]]
      exact List.take_append_drop 135 _
    rw [List.append_assoc, h1]
    exact List.take_append_drop 38 L
  rw [h]

/-- There are so many values of which p holds, one behind the other. -/
def ExN : Nat → (List Value → Prop) → Prop
  | 0, p => p []
  | n + 1, p => ∃ x, ExN n fun l => p (x :: l)
theorem exN_of : ∀ (n : Nat) (p : List Value → Prop) (l : List Value), l.length = n → p l → ExN n p
  | 0, p, l, h, hp => by
    obtain rfl := List.eq_nil_of_length_eq_zero h
    exact hp
  | n + 1, p, l, h, hp => by
    cases l with
    | nil => cases h
    | cons x t => exact ⟨x, exN_of n (fun l => p (x :: l)) t (by simpa using h) hp⟩
theorem ExN.imp : ∀ {n : Nat} {p q : List Value → Prop}, (∀ l, p l → q l) → ExN n p → ExN n q
  | 0, _, _, h, hp => h [] hp
  | _ + 1, _, _, h, ⟨x, hp⟩ => ⟨x, ExN.imp (fun l => h (x :: l)) hp⟩
theorem table_region {L : List Value} {w0 : World} {ops : Array Oper} {Q : Exit → Act → World → Prop} {id : Nat} (hL : L.length = 276) (hsz : ops.size = 135)
    (hops : (ops.toList.map fun o => (o.op, o.dst, o.guard)) = ods10.zipIdx.map fun x => (x.1.op, some (38 + x.2), none))
    (hdeps : ((ops.toList.zip ods10).all fun x => x.2.deps.all fun d => x.1.after.any fun e => e.on == d && Region.binds .any e) = true)
    (hlow : (ops.toList.zipIdx.all fun x => x.1.after.all fun e => decide (e.on < x.2)) = true)
    (hbox : ∀ W, Below w0.heap.size w0 W → ∀ p r, boxT p = some r → p < 38 ∧ ∃ b s, (L[p]?).getD undef = .pointer (some ⟨b, 0, none⟩) ∧ RichB W b r s ∧ IsArgs W r s)
    (hK : ∀ a' W q, Below w0.heap.size w0 W → TabAt W q → ExN 238 (fun l => ((l[132]?).getD undef = .slice (some ⟨q, 0, none⟩) 26 26 ∧ (l[133]?).getD undef = .int .i64 26 ∧ (l[134]?).getD undef = .int .i64 0) ∧ a' = frm (L.take 38) l []) → Q .normal a' W) :
    (Code.region id ops true).wp Tryd.prog Q { tmps := L.toArray, defers := [] } w0 := by
  rw [← frm_split L]
  have hF : (L.take 38).length = 38 := by rw [List.length_take]; omega
  have hm : ((L.drop 38).take 135).length = 135 := by rw [List.length_take, List.length_drop]; omega
  refine wp_region_any (by kernel_rfl) (wpAny_inv (TInv (L.take 38) (L.drop 173) w0) (fun listed a w i h hi => tinv_step hF hops hdeps (fun W hW p r hp => ?_) listed a w i h hi) (fun listed a w h hr => ?_) ops.size _ _ _ (by simp) ?_)
  · obtain ⟨h1, b, s, h2, h3⟩ := hbox W hW p r hp
    refine ⟨h1, b, s, ?_, h3⟩
    rw [List.getElem?_take_of_lt h1]
    exact h2
  · obtain ⟨mid, rfl, h1, h2, h3, h4⟩ := h
    have hall := ready_all hlow (by omega) hr
    obtain ⟨q, e1, e2⟩ := h4 132 .tab rfl (hall 132 (by omega))
    have e3 : (mid[133]?).getD undef = .int .i64 26 := h4 133 .len rfl (hall 133 (by omega))
    have e4 : (mid[134]?).getD undef = .int .i64 0 := h4 134 .nul rfl (hall 134 (by omega))
    have hap : ∀ i, i < 135 → (mid ++ L.drop 173)[i]? = mid[i]? := fun i hi => List.getElem?_append_left (by omega)
    refine hK _ w q h3 e2 (exN_of 238 _ (mid ++ L.drop 173) (by rw [List.length_append, List.length_drop]; omega) ⟨⟨?_, ?_, ?_⟩, ?_⟩)
    · rw [hap 132 (by omega)]; exact e1
    · rw [hap 133 (by omega)]; exact e3
    · rw [hap 134 (by omega)]; exact e4
    · simp [frm, List.append_assoc]
  · refine ⟨_, rfl, hm, by simp [hsz], (Below.refl _ w0).drew, fun i d hd hl => ?_⟩
    exfalso
    rw [Array.getD_eq_getD_getElem?, Array.getElem?_replicate] at hl
    split at hl
    · cases hl
    · cases hl
end Go.Proofs.YtadogjnoklabdaaDoor
