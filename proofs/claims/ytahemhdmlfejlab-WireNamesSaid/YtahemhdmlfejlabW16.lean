/- Plain laws of package wire: what is written is read, and what is read is written. -/
import Derived.Test.YtahemhdmlfejlabW15
namespace Go.Proofs.Ytahemhdmlfejlab
open Go.ChangeShapes Go.WideShapes Go.ChangeAt Go.RowKit
set_option maxRecDepth 100000

theorem drop_cons {s : ByteArray} {j : Nat} {b : UInt8} {r : List UInt8} (h : s.data.toList.drop j = b :: r) : byteAt s j = b.toNat ∧ j < s.size ∧ s.data.toList.drop (j + 1) = r := by
  have hl : j < s.data.toList.length := by
    by_cases hj : j < s.data.toList.length
    · exact hj
    · rw [List.drop_eq_nil_of_le (by omega)] at h; cases h
  have h2 := List.drop_eq_getElem_cons hl
  rw [h] at h2
  injection h2 with e1 e2
  refine ⟨?_, by simpa using hl, e2.symm⟩
  unfold byteAt
  rw [List.getD_eq_getElem?_getD, List.getElem?_eq_getElem hl, Option.getD_some, e1]

theorem rdN_numL (s : ByteArray) (at_ : Nat) (lo hi : Int) : ∀ (f m i acc : Nat) (rest : List UInt8), s.data.toList.drop (at_ + i) = numL m ++ rest → (numL m).length ≤ f → (0 < i → m ≠ 0) →
    lo ≤ ((acc + m * 128 ^ i : Nat) : Int) → ((acc + m * 128 ^ i : Nat) : Int) ≤ hi → rdN s at_ lo hi f i acc = .inl (acc + m * 128 ^ i, i + (numL m).length) := by
  intro f
  induction f with
  | zero =>
    intro m i acc rest _ h
    rw [numL] at h
    split at h <;> simp at h
  | succ f ih =>
    intro m i acc rest hd hf h0 hlo hhi
    rw [numL] at hd hf
    rw [rdN]
    by_cases hm : m < 128
    · rw [if_pos hm] at hd hf
      obtain ⟨hb, hlt, _⟩ := drop_cons (by simpa using hd)
      have hbm : byteAt s (at_ + i) = m := by rw [hb]; simp; omega
      rw [numL, if_pos hm, hbm, if_neg (by omega), if_neg (by omega), if_neg (fun h => h0 h.1 h.2), Nat.mod_eq_of_lt hm, if_neg (by omega)]
      simp
    · rw [if_neg hm] at hd hf
      obtain ⟨hb, hlt, hd2⟩ := drop_cons hd
      have hbm : byteAt s (at_ + i) = m % 128 + 128 := by rw [hb]; simp; omega
      have hsum : acc + m % 128 * 128 ^ i + m / 128 * 128 ^ (i + 1) = acc + m * 128 ^ i := by
        have hx : m = m % 128 + 128 * (m / 128) := (Nat.mod_add_div m 128).symm
        have : m * 128 ^ i = (m % 128 + 128 * (m / 128)) * 128 ^ i := by rw [← hx]
        rw [this, Nat.pow_succ, Nat.add_mul, Nat.add_assoc, Nat.mul_comm 128 (m / 128), Nat.mul_assoc, Nat.mul_comm 128 (128 ^ i)]
      rw [if_neg (by omega), hbm, if_pos (by omega), show (m % 128 + 128) % 128 = m % 128 from by omega]
      rw [ih (m / 128) (i + 1) (acc + m % 128 * 128 ^ i) rest hd2 (by simpa using hf) (fun _ => by omega) (by rw [hsum]; exact hlo) (by rw [hsum]; exact hhi), hsum]
      conv => rhs; rw [numL, if_neg hm]
      simp
      omega

theorem numL_rdN (s : ByteArray) (at_ : Nat) (lo hi : Int) : ∀ (f i acc n k : Nat), rdN s at_ lo hi f i acc = .inl (n, k) → ∃ m, n = acc + m * 128 ^ i ∧ i < k ∧ (0 < i → m ≠ 0) ∧ ∃ rest, s.data.toList.drop (at_ + i) = numL m ++ rest ∧ (numL m).length = k - i := by
  intro f
  induction f with
  | zero => intro i acc n k h; simp [rdN] at h
  | succ f ih =>
    intro i acc n k h
    rw [rdN] at h
    have h256 := byteAt_lt s (at_ + i)
    split at h
    · simp at h
    · rename_i hsz
      have hlt : at_ + i < s.data.toList.length := by simpa using hsz
      have hdr := List.drop_eq_getElem_cons hlt
      have hbv : s.data.toList[at_ + i] = UInt8.ofNat (byteAt s (at_ + i)) := by
        unfold byteAt
        rw [List.getD_eq_getElem?_getD, List.getElem?_eq_getElem hlt, Option.getD_some]
        simp
      rw [hbv] at hdr
      generalize byteAt s (at_ + i) = b at *
      split at h
      · rename_i hb
        obtain ⟨m, h1, h2, h3, rest, h4, h5⟩ := ih _ _ _ _ h
        have hne := h3 (by omega)
        have hq : (b % 128 + 128 * m) / 128 = m := by omega
        have hN : numL (b % 128 + 128 * m) = UInt8.ofNat b :: numL m := by
          conv => lhs; rw [numL]
          rw [if_neg (by omega), hq]
          congr 2
          omega
        refine ⟨b % 128 + 128 * m, ?_, by omega, fun _ => by omega, rest, ?_, ?_⟩
        · rw [h1, Nat.pow_succ, Nat.add_mul, Nat.add_assoc, Nat.mul_comm 128 m, Nat.mul_assoc, Nat.mul_comm 128 (128 ^ i)]
        · rw [hdr, hN]
          have : at_ + i + 1 = at_ + (i + 1) := by omega
          rw [this, h4]
          rfl
        · rw [hN, List.length_cons, h5]; omega
      · rename_i hb
        split at h
        · simp at h
        · rename_i hw
          split at h
          · simp at h
          · simp at h
            obtain ⟨rfl, rfl⟩ := h
            refine ⟨b, by rw [Nat.mod_eq_of_lt (by omega)], by omega, fun hi0 hb0 => hw ⟨hi0, hb0⟩, s.data.toList.drop (at_ + i + 1), ?_, ?_⟩
            · rw [hdr, numL, if_pos (by omega)]; rfl
            · rw [numL, if_pos (by omega)]; simp

theorem extract_list (s : ByteArray) (a b : Nat) : (s.extract a b).data.toList = (s.data.toList.drop a).take (b - a) := by
  rw [ByteArray.data_extract, Array.toList_extract]

theorem ba_ext {x y : ByteArray} (h : x.data.toList = y.data.toList) : x = y := by
  cases x; cases y
  simp at h
  rw [h]


def encS (x : StepD) : List UInt8 := if x.kind = 0 ∧ 0 ≤ x.n then numL x.n.toNat else if x.kind = 1 then numL x.s.size ++ x.s.data.toList else []
def catS (l : List StepD) (k : Nat) : List UInt8 := (l.take k).flatMap encS
theorem catS_succ (l : List StepD) (k : Nat) (h : k < l.length) : catS l (k + 1) = catS l k ++ encS l[k] := by
  unfold catS
  rw [List.take_succ_eq_append_getElem h, List.flatMap_append]
  simp
theorem catS_drop (l : List StepD) (k : Nat) (h : k < l.length) : (catS l l.length).drop (catS l k).length = encS l[k] ++ (l.drop (k + 1)).flatMap encS := by
  have : catS l l.length = catS l k ++ (encS l[k] ++ (l.drop (k + 1)).flatMap encS) := by
    unfold catS
    rw [List.take_length]
    conv => lhs; rw [← List.take_append_drop k l, List.flatMap_append, List.drop_eq_getElem_cons h, List.flatMap_cons]
  rw [this, List.drop_left]
theorem encS_len (x : StepD) (hw : x.wf) : (encS x).length ≤ 10 + x.s.size := by
  obtain ⟨_, _, hn, hs, _⟩ := hw
  unfold encS
  split
  · have := numL_9 x.n.toNat (by omega)
    omega
  · split
    · have := numL_9 x.s.size (by omega)
      have h2 : x.s.data.toList.length = x.s.size := by simp
      rw [List.length_append]
      omega
    · simp
theorem catS_len (l : List StepD) (hw : ∀ i (h : i < l.length), l[i].wf) : ∀ k, k ≤ l.length → (catS l k).length ≤ tot (l.take k) := by
  intro k
  induction k with
  | zero => intro _; simp [catS, tot]
  | succ k ih =>
    intro hk
    have h1 := ih (by omega)
    have h2 := encS_len l[k] (hw k (by omega))
    rw [catS_succ l k (by omega), tot_succ l k (by omega), List.length_append]
    omega

theorem rNum_back (s : ByteArray) (at_ n : Nat) (rest : List UInt8) (hd : s.data.toList.drop at_ = numL n ++ rest) (hn : n ≤ 9223372036854775807) : rNum s at_ 0 n n = ((n : Int), at_ + (numL n).length, 0) := by
  unfold rNum
  rw [if_pos rfl, rdN_numL s at_ n n 9 n 0 0 rest hd (numL_9 n (by omega)) (fun h => absurd h (by omega)) (by simp) (by simp)]
  simp

theorem rText_back (s : ByteArray) (at_ : Nat) (t : ByteArray) (rest : List UInt8) (hd : s.data.toList.drop at_ = numL t.size ++ (t.data.toList ++ rest)) (hn : t.size ≤ 140737488351232) :
    rText s at_ 0 t.size = (t, at_ + (numL t.size).length + t.size, 0) := by
  unfold rText
  rw [if_pos rfl, rdN_numL s at_ 0 t.size 9 t.size 0 0 _ hd (numL_9 t.size (by omega)) (fun h => absurd h (by omega)) (by simp) (by simp)]
  simp only [Nat.zero_add, Nat.pow_zero, Nat.mul_one]
  have hl : s.data.toList.drop (at_ + (numL t.size).length) = t.data.toList ++ rest := by
    rw [← List.drop_drop, hd, List.drop_left]
  have hts : t.data.toList.length = t.size := by simp
  have hlen : at_ + (numL t.size).length + t.size ≤ s.size := by
    have h1 := congrArg List.length hd
    rw [List.length_drop, List.length_append, List.length_append, hts] at h1
    have h2 : s.data.toList.length = s.size := by simp
    have h3 : 0 < (numL t.size).length := by rw [numL]; split <;> simp
    omega
  rw [if_neg (by omega)]
  have : s.extract (at_ + (numL t.size).length) (at_ + (numL t.size).length + t.size) = t := by
    apply ba_ext
    rw [extract_list, hl, Nat.add_sub_cancel_left, ← hts, List.take_left]
  rw [this]

end Go.Proofs.Ytahemhdmlfejlab
