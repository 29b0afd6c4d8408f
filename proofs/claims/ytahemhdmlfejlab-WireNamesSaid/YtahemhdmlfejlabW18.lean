/- Plain laws for WireAnew. -/
import Derived.Test.YtahemhdmlfejlabW17
namespace Go.Proofs.Ytahemhdmlfejlab
open Go.ChangeShapes Go.WideShapes Go.ChangeAt Go.RowKit
set_option maxRecDepth 100000

theorem rdN_bad (s : ByteArray) (at_ : Nat) (lo hi : Int) : ∀ f i n x, rdN s at_ lo hi f i n = .inr x → (x == 0) = false := by
  intro f
  induction f with
  | zero => intro i n x h; simp [rdN] at h; subst h; rfl
  | succ f ih =>
    intro i n x h
    rw [rdN] at h
    split at h
    · simp at h; subst h; rfl
    · split at h
      · exact ih _ _ _ h
      · split at h
        · simp at h; subst h; rfl
        · split at h
          · simp at h; subst h; rfl
          · simp at h

/-- What a number that is read is: wrong, and the place stays; or within bounds, and the bytes are its own. -/
theorem rNum_ends (s : ByteArray) (at_ : Nat) (lo hi : Int) :
    (∃ x, (x == 0) = false ∧ rNum s at_ 0 lo hi = (0, at_, x)) ∨ ∃ n k : Nat, rNum s at_ 0 lo hi = ((n : Int), at_ + k, 0) ∧ lo ≤ n ∧ (n : Int) ≤ hi ∧ at_ + k ≤ s.size ∧ n ≤ 9223372036854775807 ∧ (s.extract 0 (at_ + k)).data.toList = (s.extract 0 at_).data.toList ++ numL n ∧ (numL n).length ≤ 9 := by
  unfold rNum
  rw [if_pos rfl]
  cases h : rdN s at_ lo hi 9 0 0 with
  | inr x => exact .inl ⟨x, rdN_bad _ _ _ _ _ _ _ _ h, rfl⟩
  | inl p =>
    obtain ⟨n, k⟩ := p
    obtain ⟨a1, a2, a3, a4, a5, a6⟩ := rdN_in s at_ lo hi 9 0 0 n k rfl (by simp) h
    obtain ⟨m, b1, b2, b3, rest, b4, b5⟩ := numL_rdN s at_ lo hi 9 0 0 n k h
    have hm : m = n := by simpa using b1.symm
    subst hm
    refine .inr ⟨m, k, rfl, a5, a6, a1, by omega, ?_, by omega⟩
    rw [extract_list, extract_list, List.drop_zero, Nat.sub_zero, Nat.sub_zero, List.take_add]
    congr 1
    rw [show at_ = at_ + 0 from rfl, b4, show k = (numL m).length from by omega, List.take_left]

theorem rText_ends (s : ByteArray) (at_ : Nat) (hi : Int) :
    (∃ x at2, (x == 0) = false ∧ at_ ≤ at2 ∧ at2 ≤ max at_ s.size ∧ rText s at_ 0 hi = (⟨#[]⟩, at2, x)) ∨ ∃ (t : ByteArray) (at2 : Nat), rText s at_ 0 hi = (t, at2, 0) ∧ (t.size : Int) ≤ hi ∧ at2 ≤ s.size ∧ at_ ≤ at2 ∧ t.size ≤ s.size ∧ (s.extract 0 at2).data.toList = (s.extract 0 at_).data.toList ++ (numL t.size ++ t.data.toList) := by
  unfold rText
  rw [if_pos rfl]
  cases h : rdN s at_ 0 hi 9 0 0 with
  | inr x => exact .inl ⟨x, at_, rdN_bad _ _ _ _ _ _ _ _ h, Nat.le_refl _, by omega, rfl⟩
  | inl p =>
    obtain ⟨n, k⟩ := p
    obtain ⟨a1, a2, a3, a4, a5, a6⟩ := rdN_in s at_ 0 hi 9 0 0 n k rfl (by simp) h
    obtain ⟨m, b1, b2, b3, rest, b4, b5⟩ := numL_rdN s at_ 0 hi 9 0 0 n k h
    have hm : m = n := by simpa using b1.symm
    subst hm
    simp only []
    by_cases hs : s.size < at_ + k + m
    · rw [if_pos hs]
      exact .inl ⟨8, at_ + k, rfl, by omega, by omega, rfl⟩
    · rw [if_neg hs]
      have hsz : (s.extract (at_ + k) (at_ + k + m)).size = m := by rw [ByteArray.size_extract]; omega
      refine .inr ⟨_, _, rfl, by rw [hsz]; exact a6, by omega, by omega, by omega, ?_⟩
      rw [hsz, extract_list, extract_list, extract_list, List.drop_zero, Nat.sub_zero, Nat.sub_zero, Nat.add_assoc, List.take_add]
      congr 1
      rw [List.take_add]
      have h0 : s.data.toList.drop at_ = numL m ++ rest := by rw [show at_ = at_ + 0 from rfl, b4]
      congr 1
      · rw [h0, show k = (numL m).length from by omega, List.take_left]
      · rw [List.drop_drop, show at_ + (k + m) - (at_ + k) = m from by omega]

theorem wr_bytes_of {B : Nat} {w : World} {g : Nat} {v : Value} {X : ByteArray} (h : Wr B w g v X.data.toList) :
    Calls Try.prog 13 #[.pointer (some ⟨g, 0, none⟩)] w fun e w' => e = .returned (.string X) ∧ w = w' := by
  refine (wr_bytes h).mono ?_
  rintro e w' ⟨T, hT, _, rfl, rfl⟩
  rw [ba_ext hT]
  exact ⟨rfl, rfl⟩

theorem wr_num2 {B gr : Nat} {w0 w : World} {g : Nat} {v : Value} {bs bs' : List UInt8} {t : TypeId} {cs : Array Value} (m : Nat) (h : Wr B w g v bs) (hb : Below B w0 w) (hB : B ≤ w0.heap.size) (hn : m ≤ 9223372036854775807) (hl : bs.length + (numL m).length ≤ 4194304) (he : bs' = bs ++ numL m)
    (hk : Blk w gr t cs) (hne : g ≠ gr) (hv : v.ownBlock ≠ some gr) :
    Calls Try.prog 9 #[.pointer (some ⟨g, 0, none⟩), .int .i64 m] w fun e w' => e = .returned (.int .i64 0) ∧ ∃ v', Wr B w' g v' bs' ∧ Below B w0 w' ∧ Blk w' gr t cs ∧ v'.ownBlock ≠ some gr := by
  have hN := num_any g v bs m w hn h.hw
  refine hN.mono ?_
  rintro e w' ⟨rfl, v', h1, h2⟩
  have hs := hb.size
  simp only [putE, putB, if_pos hl] at h1 ⊢
  obtain ⟨a, b⟩ := h.step hb (by omega) h1 h2
  refine ⟨trivial, v', he ▸ a, b, hk.touch h2.touch (by rintro (e | e); exact hne e.symm; exact hv e), fun e => ?_⟩
  rcases h2.at_ gr e with e | e
  · exact hv e
  · have := hk.lt; omega

theorem wr_text2 {B gr : Nat} {w0 w : World} {g : Nat} {v : Value} {bs bs' : List UInt8} {t : TypeId} {cs : Array Value} (s : ByteArray) (h : Wr B w g v bs) (hb : Below B w0 w) (hB : B ≤ w0.heap.size) (hs : s.size ≤ 140737488351232) (hl : bs.length + (numL s.size ++ s.data.toList).length ≤ 4194304) (he : bs' = bs ++ (numL s.size ++ s.data.toList))
    (hk : Blk w gr t cs) (hne : g ≠ gr) (hv : v.ownBlock ≠ some gr) :
    Calls Try.prog 11 #[.pointer (some ⟨g, 0, none⟩), .string s] w fun e w' => e = .returned (.int .i64 0) ∧ ∃ v', Wr B w' g v' bs' ∧ Below B w0 w' ∧ Blk w' gr t cs ∧ v'.ownBlock ≠ some gr := by
  have hN := text_any g v bs s w hs h.hw
  refine hN.mono ?_
  rintro e w' ⟨rfl, v', h1, h2⟩
  have hs := hb.size
  simp only [putE, putB, if_pos hl] at h1 ⊢
  obtain ⟨a, b⟩ := h.step hb (by omega) h1 h2
  refine ⟨trivial, v', he ▸ a, b, hk.touch h2.touch (by rintro (e | e); exact hne e.symm; exact hv e), fun e => ?_⟩
  rcases h2.at_ gr e with e | e
  · exact hv e
  · have := hk.lt; omega

end Go.Proofs.Ytahemhdmlfejlab
