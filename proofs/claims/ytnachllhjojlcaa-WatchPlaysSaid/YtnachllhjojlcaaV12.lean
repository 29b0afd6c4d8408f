/- slices.Index, slices.Contains, slices.Clone over numbers that only are read; a clause, and a row, more. -/
import Derived.Test.YtnachllhjojlcaaV9
namespace Go.Proofs.Ytnachllhjojlcaa
open Go.ChangeShapes Go.WideShapes Go.ChangeAt Go.RowKit Go.Maps
set_option maxRecDepth 100000

theorem index_any (v : Int) (l : List Int) (ao : Option Addr) (cap : Nat) (w : World) (hl : l.length ≤ 4611686018427387904)
    (hc : 0 < l.length → ∃ b off, ao = some ⟨b, off, none⟩ ∧ ∀ j (h : j < l.length), w.cell? ⟨b, off + j, none⟩ = some (.int .i64 l[j])) :
    Calls Try.prog 60 #[.slice ao l.length cap, .int .i64 v] w fun e w' => e = .returned (.int .i64 (firstAt (fun x => x == v) l 0)) ∧ w = w' := by
  obtain ⟨T, hT⟩ : ∃ T, T = firstAt (fun x => x == v) l 0 := ⟨_, rfl⟩
  have HT := Lib.hid hT
  rw [← hT]
  clear hT
  go_enter Try.func60, Try.ntmps60
  go_wp2_with fail
  go_loop [8] (fun i => ∃ k : Nat, k ≤ l.length ∧ i = .int .i64 k ∧ T = firstAt (fun x => x == v) (l.drop k) k) (fun i => l.length - (intOf i).toNat)
  case atStart => exact ⟨0, by omega, rfl, HT.out⟩
  case round =>
    obtain ⟨k, hk, rfl, hrest⟩ := hrel
    by_cases hlt : k < l.length
    · obtain ⟨b, off, rfl, hcell⟩ := hc (by omega)
      have hck := hcell k hlt
      have hki : (k : Int) < (l.length : Int) := by omega
      rw [List.drop_eq_getElem_cons hlt] at hrest
      unfold firstAt at hrest
      generalize l[k] = x at *
      by_cases hx : x = v
      · subst hx
        rw [if_pos (by simp)] at hrest
        subst hrest
        clear hc hcell
        go_wp2_with fail
        go_ret
        exact ⟨rfl, rfl⟩
      · rw [if_neg (by simpa using hx)] at hrest
        have h1 : (x == v) = false := by simpa using hx
        have h2 : (v == x) = false := by simp; omega
        have HR := Lib.hid hrest
        clear hc hcell hrest
        go_wp2_with fail
        go_round
        case rel => exact ⟨k + 1, by omega, by go_num, HR.out⟩
        case measure => simp [intOf]; omega
    · obtain rfl : k = l.length := by omega
      have hT : T = -1 := by rw [hrest, List.drop_length]; rfl
      subst hT
      clear hrest hc
      go_wp2_with fail
      go_ret
      exact ⟨rfl, rfl⟩

theorem contains_any (v : Int) (l : List Int) (ao : Option Addr) (cap : Nat) (w : World) (hl : l.length ≤ 4611686018427387904)
    (hc : 0 < l.length → ∃ b off, ao = some ⟨b, off, none⟩ ∧ ∀ j (h : j < l.length), w.cell? ⟨b, off + j, none⟩ = some (.int .i64 l[j])) :
    Calls Try.prog 40 #[.slice ao l.length cap, .int .i64 v] w fun e w' => e = .returned (.bool (l.any fun x => x == v)) ∧ w = w' := by
  have HI := Lib.hid (index_any v l ao cap w hl hc)
  have h := firstAt_any (fun x => x == v) l 0
  generalize firstAt (fun x => x == v) l 0 = r at *
  rw [← h]
  clear h hc
  go_enter Try.func40, Try.ntmps40
  go_wp2_with (go_at_call 60; refine HI.out.mono ?_; rintro e w' ⟨rfl, rfl⟩)
  go_ret
  exact ⟨rfl, rfl⟩

/-! ### Numbers that are read -/
def Ints (w : World) (ao : Option Addr) (l : List Int) : Prop :=
  0 < l.length → ∃ b off, ao = some ⟨b, off, none⟩ ∧ b < w.heap.size ∧ ∀ j (h : j < l.length), w.cell? ⟨b, off + j, none⟩ = some (.int .i64 l[j])
theorem Ints.below {w w' : World} {ao : Option Addr} {l : List Int} (h : Ints w ao l) (hb : Below w.heap.size w w') : Ints w' ao l := fun h0 => by
  obtain ⟨b, off, e, hbl, hc⟩ := h h0
  exact ⟨b, off, e, Nat.lt_of_lt_of_le hbl hb.size, fun j hj => (World.cell?_of_block (w := w) (hb.block b hbl)).trans (hc j hj)⟩
theorem Ints.touch {w w' : World} {F : Nat → Prop} {ao : Option Addr} {l : List Int} (h : Ints w ao l) (ht : Touch F w w') (hF : ∀ b off, ao = some ⟨b, off, none⟩ → ¬ F b) : Ints w' ao l := fun h0 => by
  obtain ⟨b, off, e, hbl, hc⟩ := h h0
  exact ⟨b, off, e, Nat.lt_of_lt_of_le hbl ht.size, fun j hj => (ht.cell (p := ⟨b, off + j, none⟩) hbl (hF b off e)).trans (hc j hj)⟩
theorem Own.ints {w : World} {v : Value} {l : List Int} (h : Own w 3 1 v l.length (inC l)) : ∃ ao cap, v = .slice ao l.length cap ∧ Ints w ao l := by
  obtain ⟨ao, cap, e, _, _, hf⟩ := h.form
  refine ⟨ao, cap, e, fun h0 => ?_⟩
  obtain ⟨g, off, e2, hc, _, hg⟩ := hf h0
  exact ⟨g, off, e2, hg, fun j hj => by rw [hc j (by rw [inC_len]; exact hj), inC_getD _ _ hj]; simp [List.getD, hj]⟩
theorem ints_src {w : World} {ao : Option Addr} {l : List Int} (c : Nat) (h : Ints w ao l) : Src Try.prog 1 23 (.slice ao l.length c) l.length (inC l) w := by
  rcases Nat.eq_zero_or_pos l.length with h0 | h0
  · have hx : l = [] := List.eq_nil_of_length_eq_zero h0
    subst hx
    cases ao with
    | none => exact Src.ofNil w Try.underlying23 c
    | some a => exact Src.ofSlice w Try.underlying23 a 0 c [] rfl (fun j u hu => by simp at hu) (by simp)
  · obtain ⟨g, off, rfl, _, hc⟩ := h h0
    refine Src.ofSlice w Try.underlying23 ⟨g, off, none⟩ l.length c (inC l) (by simp [inC]) (fun j u hu => ?_) (in_one l)
    have hj : j < l.length := by have := (List.getElem?_eq_some_iff.1 hu).1; simpa [inC] using this
    have ha : (⟨g, off, none⟩ : Addr).add j = ⟨g, off + j, none⟩ := by unfold Addr.add; split <;> simp_all
    rw [ha, hc j hj, ← hu]
    simp [inC, hj]

theorem cloneR_any (ao : Option Addr) (l : List Int) (cap : Nat) (w : World) (hI : Ints w ao l) (hn : l.length ≤ 5000) :
    Calls Try.prog 41 #[.slice ao l.length cap] w fun e w' => ∃ v', e = .returned v' ∧ Own w' 3 1 v' l.length (inC l) ∧ Below w.heap.size w w' ∧ ∀ k, v'.ownBlock = some k → w.heap.size ≤ k := by
  obtain ⟨i, hi, hz0, hz1, hz2⟩ := info_parts (P := Try.prog) (e := 3) (z := .int .i64 0) (size := 1) (bytes := 8) (by kernel_rfl)
  cases ao with
  | none =>
    have h0 : l.length = 0 := by
      rcases Nat.eq_zero_or_pos l.length with h | h
      · exact h
      · obtain ⟨_, _, e, _⟩ := hI h
        cases e
    obtain rfl : l = [] := List.eq_nil_of_length_eq_zero h0
    have hbo : ∀ W, Sem.run Try.prog (binOp BinOp.eql 23 (Value.slice none 0 cap) (Value.slice none 0 0)) W = .ok (.bool true) W := fun W => by kernel_rfl
    go_enter Try.func41, Try.ntmps41
    go_wp2_with fail
    go_ret
    exact ⟨_, rfl, Own.nil _ _ _, Below.refl _ _, fun k hk => by simp [Value.ownBlock] at hk⟩
  | some ad =>
    have hE : Own (w.alloc (.cells #[] 3)) 3 1 (.slice (some ⟨w.heap.size, 0, none⟩) 0 0) 0 [] := Own.made w 3 1 #[] 0 rfl (by decide)
    have hal : Below w.heap.size w (w.alloc (.cells #[] 3)) := (Below.refl _ _).alloc (Nat.le_refl _) _
    have hS := ints_src cap (hI.below hal)
    have hbo : ∀ (n : Nat) W, Sem.run Try.prog (binOp BinOp.eql 23 (Value.slice (some ad) n cap) (Value.slice none 0 0)) W = .ok (.bool false) W := fun n W => by kernel_rfl
    clear hI hal
    go_enter Try.func41, Try.ntmps41
    go_wp2_with (at_builtin; go_loud (refine wpList_append_S _ rfl (.tmp 5) (.tmp 6) _ _ rfl 3 i _ 1 8 Try.underlying23 hi hz0 hz1 hz2 rfl (by omega) (.slice (some ⟨w.heap.size, 0, none⟩) 0 0) 0 [] rfl hE (by simp) _ l.length _ rfl hS (by simp only [maxLen]; omega) (by omega) ?_); intro ao2 cap2 w1 hn1 hm1 hown1 hg1 hat1 hlt1)
    go_ret
    have hb : Below w.heap.size w w1 := ((Below.refl w.heap.size w).alloc (Nat.le_refl _) _).trans ⟨hg1.os, hg1.tape, hg1.output, Nat.le_trans (by simp) hg1.size, fun k hk => hg1.block k (by simp; omega) (by simp [Value.ownBlock]; omega)⟩
    refine ⟨.slice ao2 l.length cap2, rfl, ?_, hb, fun k hk => ?_⟩
    · simpa using hown1
    · rcases hat1 with h | h
      · rw [Nat.zero_add] at h
        rw [h] at hk
        simp [Value.ownBlock] at hk
        omega
      · rw [Nat.zero_add] at h
        rw [h] at hk
        injection hk with hk
        simp at hk
        omega

theorem rowV_snoc (n : Nat) (f : Nat → Value) (v : Value) : rowV (n + 1) (fun i => if i = n then v else f i) = rowV n f ++ [v] := by
  unfold rowV
  rw [List.range_succ, List.map_append]
  congr 1
  · apply List.map_congr_left
    intro i hi
    have := List.mem_range.1 hi
    rw [if_neg (by omega)]
  · simp

section
variable {w : World} {M : WM} {S : WS}
/-- A clause more: v, its row; vC', the rows anew. -/
theorem WAt.addCl (N : Nat → Prop) (hN : ∀ k, N k → ¬ M.all S k) (h : WAt w M S) {w1 : World} {v vC' : Value} {c : List Int} (ht : Touch (fun k => M.vC.ownBlock = some k) w w1) (hv : Own w1 3 1 v c.length (inC c))
    (hvN : ∀ k, v.ownBlock = some k → N k) (ho : Own w1 23 1 vC' (S.cl.length + 1) (rowV S.cl.length M.C ++ [v])) (hat : ∀ k, vC'.ownBlock = some k → M.vC.ownBlock = some k ∨ N k) :
    WAt (w1.setCell ⟨M.x, 1, none⟩ vC') { M with vC := vC', C := fun i => if i = S.cl.length then v else M.C i } ⟨S.n, S.es, S.cl ++ [c], S.ls, S.by_, S.done, S.fresh⟩ ∧ Touch (M.all S) w (w1.setCell ⟨M.x, 1, none⟩ vC') ∧
      ∀ k, WM.all { M with vC := vC', C := fun i => if i = S.cl.length then v else M.C i } ⟨S.n, S.es, S.cl ++ [c], S.ls, S.by_, S.done, S.fresh⟩ k → M.all S k ∨ N k := by
  have hb : Blk w M.x 65 _ := h.part .self
  have hxf : ¬ M.vC.ownBlock = some M.x := fun e => by
    have := h.dis .cls .self M.x e rfl
    cases this
  have hb1 := hb.touch ht hxf
  have hxv : vC'.ownBlock ≠ some M.x := fun e => by
    rcases hat _ e with h1 | h1
    · exact hxf h1
    · exact hN _ h1 ⟨.self, rfl⟩
  have hxr : v.ownBlock ≠ some M.x := fun e => hN _ (hvN _ e) ⟨.self, rfl⟩
  have ht2 : Touch (fun k => ∃ t, (t = Tag.self ∨ t = Tag.cls ∨ t = Tag.cl S.cl.length) ∧ M.own S t k) w (w1.setCell ⟨M.x, 1, none⟩ vC') :=
    (ht.mono (G := fun k => ∃ t, (t = Tag.self ∨ t = Tag.cls ∨ t = Tag.cl S.cl.length) ∧ M.own S t k) fun k _ hk => ⟨.cls, .inr (.inl rfl), hk⟩).setCell (p := ⟨M.x, 1, none⟩) (fun _ => ⟨.self, .inl rfl, rfl⟩) _
  have ho2 := ho.far (p := ⟨M.x, 1, none⟩) hxv vC'
  have hv2 := hv.far (p := ⟨M.x, 1, none⟩) hxr vC'
  have hvv : v.ownBlock = none ∨ v.ownBlock ≠ vC'.ownBlock := hv.ne_own ho (by decide)
  have hlen : (S.cl ++ [c]).length = S.cl.length + 1 := by simp
  refine WAt.updN (M' := { M with vC := vC', C := fun i => if i = S.cl.length then v else M.C i }) (S' := ⟨S.n, S.es, S.cl ++ [c], S.ls, S.by_, S.done, S.fresh⟩) (fun t => t = .self ∨ t = .cls ∨ t = .cl S.cl.length) N h hN ht2 (fun t ht hp => ?_) (fun t ht => ?_) (fun t ht k hk => ?_) (fun t ht k hk => ?_) (fun t ht k hk => ?_) (fun t t' ht ht' k h1 h2 => ?_)
  · cases t with
    | self => exact absurd (.inl rfl) ht
    | cls => exact absurd (.inr (.inl rfl)) ht
    | cl i =>
      have hic : i ≠ S.cl.length := fun e => ht (.inr (.inr (by rw [e])))
      intro hi
      have hi' : i < (S.cl ++ [c]).length := hi
      show Own _ 3 1 (if i = S.cl.length then v else M.C i) ((S.cl ++ [c]).getD i []).length (inC ((S.cl ++ [c]).getD i []))
      rw [if_neg hic, getD_snoc, if_pos (by omega)]
      exact hp (by omega)
    | _ => exact hp
  · rcases ht with rfl | rfl | rfl
    · exact hb1.set_ 1 vC'
    · show Own _ 23 1 vC' (S.cl ++ [c]).length (rowV (S.cl ++ [c]).length _)
      rw [hlen, rowV_snoc]
      exact ho2
    · intro _
      show Own _ 3 1 (if S.cl.length = S.cl.length then v else M.C S.cl.length) ((S.cl ++ [c]).getD S.cl.length []).length (inC ((S.cl ++ [c]).getD S.cl.length []))
      rw [if_pos rfl, getD_snoc, if_neg (by omega), if_pos rfl]
      exact hv2
  · cases t with
    | self => exact absurd (.inl rfl) ht
    | cls => exact absurd (.inr (.inl rfl)) ht
    | cl i =>
      have hic : i ≠ S.cl.length := fun e => ht (.inr (.inr (by rw [e])))
      obtain ⟨h1, h2⟩ := hk
      have h1' : i < (S.cl ++ [c]).length := h1
      have h2' : (if i = S.cl.length then v else M.C i).ownBlock = some k := h2
      rw [if_neg hic] at h2'
      exact ⟨by omega, h2'⟩
    | _ => exact hk
  · rcases ht with rfl | rfl | rfl
    · exact .inl ⟨.self, .inl rfl, hk⟩
    · rcases hat k hk with h1 | h1
      · exact .inl ⟨.cls, .inr (.inl rfl), h1⟩
      · exact .inr h1
    · have h2' : (if S.cl.length = S.cl.length then v else M.C S.cl.length).ownBlock = some k := hk.2
      rw [if_pos rfl] at h2'
      exact .inr (hvN k h2')
  · rcases ht with rfl | rfl | rfl
    · have hk' : k = M.x := hk
      subst hk'
      exact (hb1.set_ 1 vC').lt
    · exact ho2.lt k hk
    · have h2' : (if S.cl.length = S.cl.length then v else M.C S.cl.length).ownBlock = some k := hk.2
      rw [if_pos rfl] at h2'
      exact hv2.lt k h2'
  · have hcl : ∀ k, WM.own { M with vC := vC', C := fun i => if i = S.cl.length then v else M.C i } ⟨S.n, S.es, S.cl ++ [c], S.ls, S.by_, S.done, S.fresh⟩ (.cl S.cl.length) k → v.ownBlock = some k := fun k hk => by
      have h2' : (if S.cl.length = S.cl.length then v else M.C S.cl.length).ownBlock = some k := hk.2
      rwa [if_pos rfl] at h2'
    rcases ht with rfl | rfl | rfl <;> rcases ht' with rfl | rfl | rfl
    · rfl
    · cases h1; exact absurd h2 hxv
    · cases h1; exact absurd (hcl _ h2) hxr
    · cases h2; exact absurd h1 hxv
    · rfl
    · have h3 := hcl _ h2
      rcases hvv with e | e
      · rw [e] at h3; cases h3
      · exact absurd (h3.trans (show vC'.ownBlock = some k from h1).symm) e
    · cases h2; exact absurd (hcl _ h1) hxr
    · have h3 := hcl _ h1
      rcases hvv with e | e
      · rw [e] at h3; cases h3
      · exact absurd (h3.trans (show vC'.ownBlock = some k from h2).symm) e
    · rfl
/-- A row more. -/
theorem WAt.addLi (N : Nat → Prop) (hN : ∀ k, N k → ¬ M.all S k) (h : WAt w M S) {w1 : World} {v vL' : Value} {c : List Int} (ht : Touch (fun k => M.vL.ownBlock = some k) w w1) (hv : Own w1 3 1 v c.length (inC c))
    (hvN : ∀ k, v.ownBlock = some k → N k) (ho : Own w1 23 1 vL' (S.ls.length + 1) (rowV S.ls.length M.L ++ [v])) (hat : ∀ k, vL'.ownBlock = some k → M.vL.ownBlock = some k ∨ N k) :
    WAt (w1.setCell ⟨M.x, 2, none⟩ vL') { M with vL := vL', L := fun i => if i = S.ls.length then v else M.L i } ⟨S.n, S.es, S.cl, S.ls ++ [c], S.by_, S.done, S.fresh⟩ ∧ Touch (M.all S) w (w1.setCell ⟨M.x, 2, none⟩ vL') ∧
      ∀ k, WM.all { M with vL := vL', L := fun i => if i = S.ls.length then v else M.L i } ⟨S.n, S.es, S.cl, S.ls ++ [c], S.by_, S.done, S.fresh⟩ k → M.all S k ∨ N k := by
  have hb : Blk w M.x 65 _ := h.part .self
  have hxf : ¬ M.vL.ownBlock = some M.x := fun e => by
    have := h.dis .lits .self M.x e rfl
    cases this
  have hb1 := hb.touch ht hxf
  have hxv : vL'.ownBlock ≠ some M.x := fun e => by
    rcases hat _ e with h1 | h1
    · exact hxf h1
    · exact hN _ h1 ⟨.self, rfl⟩
  have hxr : v.ownBlock ≠ some M.x := fun e => hN _ (hvN _ e) ⟨.self, rfl⟩
  have ht2 : Touch (fun k => ∃ t, (t = Tag.self ∨ t = Tag.lits ∨ t = Tag.li S.ls.length) ∧ M.own S t k) w (w1.setCell ⟨M.x, 2, none⟩ vL') :=
    (ht.mono (G := fun k => ∃ t, (t = Tag.self ∨ t = Tag.lits ∨ t = Tag.li S.ls.length) ∧ M.own S t k) fun k _ hk => ⟨.lits, .inr (.inl rfl), hk⟩).setCell (p := ⟨M.x, 2, none⟩) (fun _ => ⟨.self, .inl rfl, rfl⟩) _
  have ho2 := ho.far (p := ⟨M.x, 2, none⟩) hxv vL'
  have hv2 := hv.far (p := ⟨M.x, 2, none⟩) hxr vL'
  have hvv : v.ownBlock = none ∨ v.ownBlock ≠ vL'.ownBlock := hv.ne_own ho (by decide)
  have hlen : (S.ls ++ [c]).length = S.ls.length + 1 := by simp
  refine WAt.updN (M' := { M with vL := vL', L := fun i => if i = S.ls.length then v else M.L i }) (S' := ⟨S.n, S.es, S.cl, S.ls ++ [c], S.by_, S.done, S.fresh⟩) (fun t => t = .self ∨ t = .lits ∨ t = .li S.ls.length) N h hN ht2 (fun t ht hp => ?_) (fun t ht => ?_) (fun t ht k hk => ?_) (fun t ht k hk => ?_) (fun t ht k hk => ?_) (fun t t' ht ht' k h1 h2 => ?_)
  · cases t with
    | self => exact absurd (.inl rfl) ht
    | lits => exact absurd (.inr (.inl rfl)) ht
    | li i =>
      have hic : i ≠ S.ls.length := fun e => ht (.inr (.inr (by rw [e])))
      intro hi
      have hi' : i < (S.ls ++ [c]).length := hi
      show Own _ 3 1 (if i = S.ls.length then v else M.L i) ((S.ls ++ [c]).getD i []).length (inC ((S.ls ++ [c]).getD i []))
      rw [if_neg hic, getD_snoc, if_pos (by omega)]
      exact hp (by omega)
    | _ => exact hp
  · rcases ht with rfl | rfl | rfl
    · exact hb1.set_ 2 vL'
    · show Own _ 23 1 vL' (S.ls ++ [c]).length (rowV (S.ls ++ [c]).length _)
      rw [hlen, rowV_snoc]
      exact ho2
    · intro _
      show Own _ 3 1 (if S.ls.length = S.ls.length then v else M.L S.ls.length) ((S.ls ++ [c]).getD S.ls.length []).length (inC ((S.ls ++ [c]).getD S.ls.length []))
      rw [if_pos rfl, getD_snoc, if_neg (by omega), if_pos rfl]
      exact hv2
  · cases t with
    | self => exact absurd (.inl rfl) ht
    | lits => exact absurd (.inr (.inl rfl)) ht
    | li i =>
      have hic : i ≠ S.ls.length := fun e => ht (.inr (.inr (by rw [e])))
      obtain ⟨h1, h2⟩ := hk
      have h1' : i < (S.ls ++ [c]).length := h1
      have h2' : (if i = S.ls.length then v else M.L i).ownBlock = some k := h2
      rw [if_neg hic] at h2'
      exact ⟨by omega, h2'⟩
    | _ => exact hk
  · rcases ht with rfl | rfl | rfl
    · exact .inl ⟨.self, .inl rfl, hk⟩
    · rcases hat k hk with h1 | h1
      · exact .inl ⟨.lits, .inr (.inl rfl), h1⟩
      · exact .inr h1
    · have h2' : (if S.ls.length = S.ls.length then v else M.L S.ls.length).ownBlock = some k := hk.2
      rw [if_pos rfl] at h2'
      exact .inr (hvN k h2')
  · rcases ht with rfl | rfl | rfl
    · have hk' : k = M.x := hk
      subst hk'
      exact (hb1.set_ 2 vL').lt
    · exact ho2.lt k hk
    · have h2' : (if S.ls.length = S.ls.length then v else M.L S.ls.length).ownBlock = some k := hk.2
      rw [if_pos rfl] at h2'
      exact hv2.lt k h2'
  · have hcl : ∀ k, WM.own { M with vL := vL', L := fun i => if i = S.ls.length then v else M.L i } ⟨S.n, S.es, S.cl, S.ls ++ [c], S.by_, S.done, S.fresh⟩ (.li S.ls.length) k → v.ownBlock = some k := fun k hk => by
      have h2' : (if S.ls.length = S.ls.length then v else M.L S.ls.length).ownBlock = some k := hk.2
      rwa [if_pos rfl] at h2'
    rcases ht with rfl | rfl | rfl <;> rcases ht' with rfl | rfl | rfl
    · rfl
    · cases h1; exact absurd h2 hxv
    · cases h1; exact absurd (hcl _ h2) hxr
    · cases h2; exact absurd h1 hxv
    · rfl
    · have h3 := hcl _ h2
      rcases hvv with e | e
      · rw [e] at h3; cases h3
      · exact absurd (h3.trans (show vL'.ownBlock = some k from h1).symm) e
    · cases h2; exact absurd (hcl _ h1) hxr
    · have h3 := hcl _ h1
      rcases hvv with e | e
      · rw [e] at h3; cases h3
      · exact absurd (h3.trans (show vL'.ownBlock = some k from h2).symm) e
    · rfl
end

end Go.Proofs.Ytnachllhjojlcaa
