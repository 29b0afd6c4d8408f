/- A region that draws its order, by an invariant over what is carried out already; frames whose midst is written. Conditions: as each theorem names them. -/
import Derived.Test.YtadogjnoklabdaaDoorH42
import Derived.Great.BuildSlice
namespace Go.Proofs.YtadogjnoklabdaaDoor
open Go.ChangeShapes Go.WideShapes Go.ChangeAt Go.RowKit Go.Deep
set_option maxRecDepth 100000

theorem ready_un {md : Region.Mode} {ops : Array Oper} {listed : Array Bool} {i : Nat} (h : i ∈ Region.ready md ops listed) : i < listed.size ∧ listed[i]? = some false := by
  unfold Region.ready at h
  have h2 := (List.mem_filter.1 h).2
  simp only [Bool.and_eq_true, Bool.not_eq_true'] at h2
  have h3 := h2.1
  cases h4 : listed[i]? with
  | none => simp [Array.getD_eq_getD_getElem?, h4] at h3
  | some b =>
    simp [Array.getD_eq_getD_getElem?, h4] at h3
    subst h3
    exact ⟨(Array.getElem?_eq_some_iff.1 h4).1, rfl⟩
theorem ready_after {md : Region.Mode} {ops : Array Oper} {listed : Array Bool} {i : Nat} (h : i ∈ Region.ready md ops listed) : ∃ o, ops[i]? = some o ∧ ∀ e ∈ o.after.toList, Region.binds md e = true → listed.getD e.on false = true := by
  unfold Region.ready at h
  have h2 := (List.mem_filter.1 h).2
  simp only [Bool.and_eq_true] at h2
  have h3 := h2.2
  cases ho : ops[i]? with
  | none => rw [ho] at h3; simp at h3
  | some o =>
    rw [ho] at h3
    simp only [Option.map_some, Option.getD_some] at h3
    refine ⟨o, rfl, fun e he hb => ?_⟩
    rw [Array.all_eq_true_iff_forall_mem] at h3
    have h4 := h3 e (by simpa using he)
    simpa [hb] using h4
theorem count_set {l : List Bool} {i : Nat} (h : l[i]? = some false) : (l.set i true).count false + 1 = l.count false := by
  induction l generalizing i with
  | nil => simp at h
  | cons b l ih =>
    cases i with
    | zero =>
      simp at h
      subst h
      simp
    | succ i =>
      simp only [List.getElem?_cons_succ] at h
      have := ih h
      simp only [List.set_cons_succ, List.count_cons]
      omega
theorem wpAny_inv {P : Program} {md : Region.Mode} {ops : Array Oper} {Q : Exit → Act → World → Prop} (Inv : Array Bool → Act → World → Prop)
    (hstep : ∀ listed a w i, Inv listed a w → i ∈ Region.ready md ops listed → wpOp P ops Q i (fun a' w' => Inv (listed.setIfInBounds i true) a' w') a w)
    (hdone : ∀ listed a w, Inv listed a w → Region.ready md ops listed = [] → Q .normal a w) :
    ∀ (fuel : Nat) (listed : Array Bool) (a : Act) (w : World), listed.toList.count false ≤ fuel → Inv listed a w → wpAny P md ops Q fuel listed a w
  | 0, listed, a, w, hc, h => by
    have hr : Region.ready md ops listed = [] := by
      cases hr : Region.ready md ops listed with
      | nil => rfl
      | cons i l =>
        have h1 := ready_un (show i ∈ Region.ready md ops listed by rw [hr]; exact List.mem_cons_self)
        have h2 : false ∈ listed.toList := by
          have := h1.2
          rw [← Array.getElem?_toList] at this
          exact List.mem_of_getElem? this
        have := List.count_pos_iff.2 h2
        omega
    exact ⟨hr, hdone _ _ _ h hr⟩
  | fuel + 1, listed, a, w, hc, h => by
    refine ⟨fun hr => hdone _ _ _ h hr, fun i hi => ?_⟩
    refine wpOp_mono (fun a' w' h' => wpAny_inv Inv hstep hdone fuel _ a' w' ?_ h') (hstep _ _ _ i h hi)
    have h1 := ready_un hi
    have h2 : listed.toList[i]? = some false := by rw [Array.getElem?_toList]; exact h1.2
    have h3 := count_set h2
    rw [Array.toList_setIfInBounds]
    omega

/-! A frame whose midst, from slot 38 on, is written. -/
abbrev frm (F mid B : List Value) : Act := { tmps := (F ++ mid ++ B).toArray, defers := [] }
theorem frm_eval {F mid B : List Value} {n d : Nat} (hF : F.length = n) (hd : d < mid.length) : (frm F mid B).eval (.tmp (n + d)) = (mid[d]?).getD undef := by
  have h : ¬ n + d < n := by omega
  simp [Act.eval, List.getElem?_append, hF, hd, h]
theorem frm_put {F mid B : List Value} {n d : Nat} (hF : F.length = n) (hd : d < mid.length) (v : Value) : (frm F mid B).put (some (n + d)) v = frm F (mid.set d v) B := by
  simp only [Act.put, frm, Act.mk.injEq, and_true]
  apply Array.toList_inj.1
  simp only [Array.toList_setIfInBounds, List.set_append, hF, List.length_append]
  rw [if_pos (by omega), if_neg (by omega), Nat.add_sub_cancel_left]
theorem frm_front {F mid B : List Value} {t : Nat} (ht : t < F.length) : (frm F mid B).eval (.tmp t) = (F[t]?).getD undef := by
  simp [Act.eval, List.getElem?_append, ht]
end Go.Proofs.YtadogjnoklabdaaDoor
