/- Contracts of package wire: the reader's other methods. -/
import Derived.Test.YtdpjjnbelgaagaaGreatDoorG03
namespace Go.Proofs.YtdpjjnbelgaagaaGreatDoor
open Go.ChangeShapes Go.WideShapes Go.ChangeAt Go.RowKit
set_option maxRecDepth 100000

theorem at_any (g : Nat) (s : ByteArray) (at_ : Nat) (e : Int) (w : World) (hb : Blk w g 135 (RB s at_ e)) :
    Calls Tryz.prog 132 #[.pointer (some ⟨g, 0, none⟩)] w fun r w' => r = .returned (.int .i64 at_) ∧ w = w' := by
  have hc1 := hb.cell 1
  simp [RB] at hc1
  go_enter Tryz.func132, Tryz.ntmps132
  go_wp2_with fail
  go_ret
  exact ⟨rfl, rfl⟩
theorem wrong_any (g : Nat) (s : ByteArray) (at_ : Nat) (e : Int) (w : World) (hb : Blk w g 135 (RB s at_ e)) :
    Calls Tryz.prog 45 #[.pointer (some ⟨g, 0, none⟩)] w fun r w' => r = .returned (.tuple #[.int .i64 (if e = 0 then 0 else at_), .int .i64 e]) ∧ ∃ n, w' = w.drewN n := by
  have hc1 := hb.cell 1
  have hc2 := hb.cell 2
  simp [RB] at hc1 hc2
  go_enter Tryz.func45, Tryz.ntmps45
  by_cases he : e = 0
  · subst he
    go_wp2_with fail
    simp [bodyPost, results, Tryz.results45, go_sem]
    exact ⟨0, rfl⟩
  · have hne : (e == 0) = false := by simpa using he
    rw [if_neg he]
    go_wp2_with fail
    go_quiet (fail)
    go_wp2_with fail
    simp [bodyPost, results, Tryz.results45, go_sem]
    exact ⟨_, rfl⟩
def eEnd (s : ByteArray) (at_ : Nat) (e : Int) : Int := if e = 0 ∧ at_ < s.size then 10 else e
theorem end_any (g : Nat) (s : ByteArray) (at_ : Nat) (e : Int) (w : World) (hb : Blk w g 135 (RB s at_ e)) (hat : at_ ≤ s.size) (__hs : s.size ≤ 140737488351232) :
    Calls Tryz.prog 44 #[.pointer (some ⟨g, 0, none⟩)] w fun r w' => r = .returned (.int .i64 (eEnd s at_ e)) ∧ Blk w' g 135 (RB s at_ (eEnd s at_ e)) ∧ Touch (· = g) w w' := by
  have hc0 := hb.cell 0
  have hc1 := hb.cell 1
  have hc2 := hb.cell 2
  have hf2 := hb.frozen 2
  simp [RB] at hc0 hc1 hc2
  generalize hT : eEnd s at_ e = T
  unfold eEnd at hT
  go_enter Tryz.func44, Tryz.ntmps44
  by_cases he : e = 0
  · subst he
    by_cases hl : at_ < s.size
    · rw [if_pos ⟨rfl, hl⟩] at hT
      subst hT
      have hl' : (at_ : Int) < (s.size : Int) := by omega
      go_wp2_with fail
      go_quiet (fail)
      go_wp2_with fail
      go_ret
      exact ⟨rfl, (hb.drewN _).set_ 2 _, Touch.setCell (F := fun x => x = g) ((Touch.refl _ _).drewN _) (p := ⟨g, 2, none⟩) (fun _ => rfl) _⟩
    · rw [if_neg (by omega)] at hT
      subst hT
      have hl' : decide ((at_ : Int) < (s.size : Int)) = false := by simp; omega
      go_wp2_with fail
      go_quiet (fail)
      go_wp2_with fail
      go_ret
      exact ⟨rfl, hb.drewN _, (Touch.refl _ _).drewN _⟩
  · have hne : (e == 0) = false := by simpa using he
    rw [if_neg (by omega)] at hT
    subst hT
    go_wp2_with fail
    go_quiet (fail)
    go_wp2_with fail
    go_ret
    exact ⟨rfl, hb.drewN _, (Touch.refl _ _).drewN _⟩
def eFail (at_ : Nat) (e p x : Int) : Int × Nat × Int := if e ≠ 0 then (e, at_, e) else if p < 0 ∨ (at_ : Int) < p ∨ x = 0 then (1, at_, e) else (x, p.toNat, x)
theorem fail_any (g : Nat) (s : ByteArray) (at_ : Nat) (e p x : Int) (w : World) (hb : Blk w g 135 (RB s at_ e)) (_hat : at_ ≤ s.size) (_hs : s.size ≤ 140737488351232) :
    Calls Tryz.prog 138 #[.pointer (some ⟨g, 0, none⟩), .int .i64 p, .int .i64 x] w fun r w' => r = .returned (.int .i64 (eFail at_ e p x).1) ∧ Blk w' g 135 (RB s (eFail at_ e p x).2.1 (eFail at_ e p x).2.2) ∧ Touch (· = g) w w' := by
  have hc1 := hb.cell 1
  have hc2 := hb.cell 2
  have hf1 := hb.frozen 1
  have hf2 := hb.frozen 2
  simp [RB] at hc1 hc2
  generalize hT : eFail at_ e p x = T
  unfold eFail at hT
  go_enter Tryz.func138, Tryz.ntmps138
  by_cases he : e ≠ 0
  · have hne : (e == 0) = false := by simpa using he
    have hne' : (e != 0) = true := by simp [bne, he]
    rw [if_pos he] at hT
    subst hT
    go_wp2_with fail
    go_ret
    exact ⟨rfl, hb, .refl _ _⟩
  · rw [if_neg he] at hT
    obtain rfl : e = 0 := by omega
    by_cases hp : p < 0
    · rw [if_pos (by omega)] at hT
      subst hT
      go_wp2_with fail
      go_ret
      exact ⟨rfl, hb, .refl _ _⟩
    · have hp' : decide (p < 0) = false := by simpa using hp
      by_cases hp2 : (at_ : Int) < p
      · rw [if_pos (by omega)] at hT
        subst hT
        go_wp2_with fail
        go_ret
        exact ⟨rfl, hb, .refl _ _⟩
      · have hp2' : decide ((at_ : Int) < p) = false := by simpa using hp2
        by_cases hx : x = 0
        · subst hx
          rw [if_pos (by omega)] at hT
          subst hT
          go_wp2_with fail
          go_ret
          exact ⟨rfl, hb, .refl _ _⟩
        · have hx' : (x == 0) = false := by simpa using hx
          rw [if_neg (by omega)] at hT
          subst hT
          go_wp2_with fail
          go_ret
          have hpn : ((p.toNat : Nat) : Int) = p := by omega
          refine ⟨rfl, ?_, Touch.setCell (F := fun x => x = g) (Touch.setCell (F := fun x => x = g) (Touch.refl _ _) (p := ⟨g, 1, none⟩) (fun _ => rfl) _) (p := ⟨g, 2, none⟩) (fun _ => rfl) _⟩
          have h := (hb.set_ 1 (.int .i64 p)).set_ 2 (.int .i64 x)
          simp [RB] at h
          show Blk _ g 135 #[.string s, .int .i64 ((p.toNat : Nat) : Int), .int .i64 x]
          rw [hpn]
          exact h
theorem newreader_any (s : ByteArray) (w : World) (hs : s.size ≤ 4194304) : Calls Tryz.prog 40 #[.string s] w fun r w' => r = .returned (.tuple #[.pointer (some ⟨w.heap.size, 0, none⟩), .int .i64 0]) ∧ Blk w' w.heap.size 135 (RB s 0 0) ∧ Below w.heap.size w w' := by
  go_enter Tryz.func40, Tryz.ntmps40
  have hd : decide ((4194304 : Int) < (s.size : Int)) = false := by simp; omega
  go_wp2_with fail
  simp [bodyPost, results, Tryz.results40, go_sem]
  exact ⟨Blk.new _ _ _, (Below.refl _ _).alloc (Nat.le_refl _) _⟩
theorem newreader_long (s : ByteArray) (w : World) (hs : 4194304 < s.size) : Calls Tryz.prog 40 #[.string s] w fun r w' => r = .returned (.tuple #[.pointer none, .int .i64 40]) ∧ w = w' := by
  go_enter Tryz.func40, Tryz.ntmps40
  have hd : decide ((4194304 : Int) < (s.size : Int)) = true := by simp; omega
  go_wp2_with fail
  simp [bodyPost, results, Tryz.results40, go_sem]
end Go.Proofs.YtdpjjnbelgaagaaGreatDoor

namespace Go.Proofs.YtdpjjnbelgaagaaGreatDoor
open Go.ChangeShapes Go.WideShapes Go.ChangeAt Go.RowKit
set_option maxRecDepth 100000

theorem drop_cons {s : ByteArray} {j : Nat} {b : UInt8} {r : List UInt8} (h : s.data.toList.drop j = b :: r) : byteAt s j = b.toNat ∧ j < s.size ∧ s.data.toList.drop (j + 1) = r := by
  have hl : j < s.data.toList.length := by
    by_cases hj : j < s.data.toList.length
    · exact hj
    · rw [List.drop_eq_nil_of_le (by omega)] at h; cases h
  have h2 := List.drop_eq_getElem_cons hl
  rw [h] at h2
  injection h2 with e1 e2
  refine ⟨?_, by simpa using hl, e2.symm⟩
  unfold byteAt
  rw [List.getD_eq_getElem?_getD, List.getElem?_eq_getElem hl, Option.getD_some, e1]
theorem rdN_numL (s : ByteArray) (at_ : Nat) (lo hi : Int) : ∀ (f m i acc : Nat) (rest : List UInt8), s.data.toList.drop (at_ + i) = numL m ++ rest → (numL m).length ≤ f → (0 < i → m ≠ 0) →
    lo ≤ ((acc + m * 128 ^ i : Nat) : Int) → ((acc + m * 128 ^ i : Nat) : Int) ≤ hi → rdN s at_ lo hi f i acc = .inl (acc + m * 128 ^ i, i + (numL m).length) := by
  intro f
  induction f with
  | zero =>
    intro m i acc rest _ h
    rw [numL] at h
    split at h <;> simp at h
  | succ f ih =>
    intro m i acc rest hd hf h0 hlo hhi
    rw [numL] at hd hf
    rw [rdN]
    by_cases hm : m < 128
    · rw [if_pos hm] at hd hf
      obtain ⟨hb, hlt, _⟩ := drop_cons (by simpa using hd)
      have hbm : byteAt s (at_ + i) = m := by rw [hb]; simp; omega
      rw [numL, if_pos hm, hbm, if_neg (by omega), if_neg (by omega), if_neg (fun h => h0 h.1 h.2), Nat.mod_eq_of_lt hm, if_neg (by omega)]
      simp
    · rw [if_neg hm] at hd hf
      obtain ⟨hb, hlt, hd2⟩ := drop_cons hd
      have hbm : byteAt s (at_ + i) = m % 128 + 128 := by rw [hb]; simp; omega
      have hsum : acc + m % 128 * 128 ^ i + m / 128 * 128 ^ (i + 1) = acc + m * 128 ^ i := by
        have hx : m = m % 128 + 128 * (m / 128) := (Nat.mod_add_div m 128).symm
        have : m * 128 ^ i = (m % 128 + 128 * (m / 128)) * 128 ^ i := by rw [← hx]
        rw [this, Nat.pow_succ, Nat.add_mul, Nat.add_assoc, Nat.mul_comm 128 (m / 128), Nat.mul_assoc, Nat.mul_comm 128 (128 ^ i)]
      rw [if_neg (by omega), hbm, if_pos (by omega), show (m % 128 + 128) % 128 = m % 128 from by omega]
      rw [ih (m / 128) (i + 1) (acc + m % 128 * 128 ^ i) rest hd2 (by simpa using hf) (fun _ => by omega) (by rw [hsum]; exact hlo) (by rw [hsum]; exact hhi), hsum]
      conv => rhs; rw [numL, if_neg hm]
      simp
      omega
theorem extract_list (s : ByteArray) (a b : Nat) : (s.extract a b).data.toList = (s.data.toList.drop a).take (b - a) := by
  rw [ByteArray.data_extract, Array.toList_extract]
theorem ba_ext {x y : ByteArray} (h : x.data.toList = y.data.toList) : x = y := by
  cases x; cases y
  simp at h
  rw [h]
end Go.Proofs.YtdpjjnbelgaagaaGreatDoor

namespace Go.Proofs.YtdpjjnbelgaagaaGreatDoor
open Go.ChangeShapes Go.WideShapes Go.ChangeAt Go.RowKit
set_option maxRecDepth 100000

abbrev emp : ByteArray := ⟨#[]⟩
/-- A list of rich dependencies is the Args of a node: IsArgs says that it lies in a slice. -/
structure PkgD where
  name : ByteArray
  ep : Int
  ver : ByteArray
  rel : ByteArray
  arch : Int
  vendor : ByteArray
  prov : List DepD
  req : RichD
  con : RichD
  obs : List DepD
  reco : RichD
  sup : RichD
  sug : RichD
  enh : RichD
  files : List ByteArray
structure RepoD where
  prio : Int
  pkgs : List PkgD
structure DataD where
  repos : List RepoD
  inst : List PkgD
/-! ### Bytes -/
def encT (s : ByteArray) : List UInt8 := numL s.size ++ s.data.toList
def encV (e : Int) (v r : ByteArray) : List UInt8 := numL e.toNat ++ (encT v ++ encT r)
def encD (d : DepD) : List UInt8 := encT d.name ++ (numL d.op.toNat ++ if d.op = 0 then [] else encV d.ep d.ver d.rel)
def encR : RichD → List UInt8
  | .nil => numL 0 ++ numL 0
  | .node k d n f => numL k.toNat ++ if k = 1 then encD d else numL n ++ catN (fun j => encR (f j)) n
def encRs (r : RichD) : List UInt8 := numL r.n ++ catN (fun j => encR (r.args j)) r.n
theorem encR_eq (r : RichD) : encR r = numL r.kind.toNat ++ if r.kind = 1 then encD r.dep else encRs r := by
  cases r with
  | nil =>
    show _ = _ ++ if (0 : Int) = 1 then _ else _
    rw [if_neg (by omega)]
    show numL 0 ++ numL 0 = numL 0 ++ (numL 0 ++ [])
    rw [List.append_nil]
  | node k d n f => rfl
def encL {α : Type} (one : α → List UInt8) (l : List α) : List UInt8 := numL l.length ++ l.flatMap one
def encPk (p : PkgD) : List UInt8 :=
  encT p.name ++ (encV p.ep p.ver p.rel ++ (numL p.arch.toNat ++ (encT p.vendor ++ (encL encD p.prov ++ (encRs p.req ++ (encRs p.con ++ (encL encD p.obs ++ (encRs p.reco ++ (encRs p.sup ++ (encRs p.sug ++ (encRs p.enh ++ encL encT p.files)))))))))))
def encO (r : RepoD) : List UInt8 := numL r.prio.toNat ++ encL encPk r.pkgs
def encA (d : DataD) : List UInt8 := encL encO d.repos ++ encL encPk d.inst
/-! ### What may be -/
def archE (a : Int) : Bool := decide (1 ≤ a) && decide (a ≤ 4)
def richesE (wh : Int) (r : RichD) : Bool := decide (r.n ≤ 32) && allN (fun j => decide (mayE (r.args j) wh = 0)) r.n
def ltB (a b : ByteArray) : Bool := Op.bytesLess a.toList b.toList
def rowE : List ByteArray → Bool
  | a :: b :: l => ltB a b && rowE (b :: l)
  | _ => true
def depsE (l : List DepD) : Bool := decide (l.length ≤ 32) && l.all depE
def filesE (l : List ByteArray) : Bool := decide (l.length ≤ 32) && l.all fileE
def mayP (p : PkgD) : Bool :=
  (nameE p.name && (!fileE p.name && evrE p.ep p.ver p.rel false)) && ((archE p.arch && decide (p.vendor.size ≤ 64)) && ((depsE p.prov && (depsE p.obs && filesE p.files)) && (rowE p.files &&
    (richesE 1 p.req && (richesE 2 p.con && (richesE 1 p.reco && (richesE 3 p.sup && (richesE 1 p.sug && richesE 3 p.enh))))))))
def DataD.total (d : DataD) : Nat := (d.repos.map fun r => r.pkgs.length).sum + d.inst.length
def checkE (d : DataD) : Int :=
  if 16 < d.repos.length ∨ 256 < d.total then 40
  else if d.repos.all (fun r => decide (0 ≤ r.prio) && decide (r.prio ≤ 1024)) = false then 20
  else if (d.repos.all (fun r => r.pkgs.all mayP) && d.inst.all mayP) = false then 4 else 0
/-- Encode's answer. -/
def encodeE (d : DataD) : List UInt8 × Int := if checkE d = 0 then if (encA d).length ≤ 4194304 then (encA d, 0) else ([], 40) else ([], checkE d)
/-! ### Reading -/
/-- What is read behind a place: it, and the place behind; or the place where something is wrong, and what. -/
abbrev Rdr (α : Type) := ByteArray → Nat → Except (Nat × Int) (α × Nat)
def rPure {α : Type} (a : α) : Rdr α := fun _ at_ => .ok (a, at_)
def rBind {α β : Type} (p : Rdr α) (f : α → Rdr β) : Rdr β := fun s at_ => match p s at_ with
  | .ok (a, q) => f a s q
  | .error x => .error x
/-- The place is handed on. -/
def rBindAt {α β : Type} (p : Rdr α) (f : Nat → α → Rdr β) : Rdr β := fun s at_ => rBind p (f at_) s at_
def rFail {α : Type} (at_ : Nat) (e : Int) : Rdr α := fun _ _ => .error (at_, e)
def pNum (lo hi : Int) : Rdr Nat := fun s at_ => match rdN s at_ lo hi 9 0 0 with
  | .inl (n, k) => .ok (n, at_ + k)
  | .inr x => .error (at_, x)
def pText (most : Int) : Rdr ByteArray := fun s at_ => match rdN s at_ 0 most 9 0 0 with
  | .inl (n, k) => if s.size < at_ + k + n then .error (at_ + k, 8) else .ok (s.extract (at_ + k) (at_ + k + n), at_ + k + n)
  | .inr x => .error (at_, x)
def pRep {α : Type} (p : Rdr α) : Nat → Rdr (List α)
  | 0 => rPure []
  | n + 1 => rBind p fun x => rBind (pRep p n) fun l => rPure (x :: l)
def pMany {α : Type} (lo hi : Int) (p : Rdr α) : Rdr (List α) := rBind (pNum lo hi) (pRep p)
def pEVR : Rdr (Int × ByteArray × ByteArray) := rBind (pNum 0 2147483647) fun n => rBind (pText 64) fun v => rBind (pText 64) fun r => rPure ((n : Int), v, r)
def pDep : Rdr DepD := rBind (pText 64) fun nm => rBind (pNum 0 6) fun op => if op = 0 then rPure ⟨nm, 0, 0, emp, emp⟩ else rBind pEVR fun e => rPure ⟨nm, (op : Int), e.1, e.2.1, e.2.2⟩
def ofL (k : Int) (l : List RichD) : RichD := .node k noDep l.length fun j => l.getD j .nil
def atomD (d : DepD) : RichD := .node 1 d 0 fun _ => .nil
def pRich : Nat → Rdr RichD
  | 0 => rBindAt (pNum 1 7) fun at_ k => if k = 1 then rBind pDep fun d => rPure (atomD d) else rFail at_ 21
  | m + 1 => rBindAt (pNum 1 7) fun _ k => if k = 1 then rBind pDep fun d => rPure (atomD d) else rBind (pMany 2 24 (pRich m)) fun l => rPure (ofL k l)
def pDeps : Rdr (List DepD) := pMany 0 32 pDep
def pRiches : Rdr RichD := rBind (pMany 0 32 (pRich 8)) fun l => rPure (ofL 0 l)
def pFiles : Rdr (List ByteArray) := pMany 0 32 (pText 64)
def pBody : Rdr PkgD :=
  rBind (pText 64) fun name => rBind pEVR fun e => rBind (pNum 1 4) fun arch => rBind (pText 64) fun vendor => rBind pDeps fun prov => rBind pRiches fun req => rBind pRiches fun con => rBind pDeps fun obs =>
  rBind pRiches fun reco => rBind pRiches fun sup => rBind pRiches fun sug => rBind pRiches fun enh => rBind pFiles fun files =>
  rPure ⟨name, e.1, e.2.1, e.2.2, (arch : Int), vendor, prov, req, con, obs, reco, sup, sug, enh, files⟩
def pPkg : Rdr PkgD := rBindAt pBody fun at_ p => if mayP p = true then rPure p else rFail at_ 4
def pPkgs (left : Nat) : Rdr (List PkgD) := pMany 0 (left : Int) pPkg
def pRepo (left : Nat) : Rdr RepoD := rBind (pNum 0 1024) fun n => rBind (pPkgs left) fun l => rPure ⟨(n : Int), l⟩
def pRepos : Nat → Nat → Rdr (List RepoD × Nat)
  | 0, left => rPure ([], left)
  | n + 1, left => rBind (pRepo left) fun x => rBind (pRepos n (left - x.pkgs.length)) fun y => rPure (x :: y.1, y.2)
def pData : Rdr DataD := rBind (pNum 0 16) fun n => rBind (pRepos n 256) fun y => rBind (pPkgs y.2) fun i => rPure ⟨y.1, i⟩
def decE (s : ByteArray) : Except (Nat × Int) DataD :=
  if 4194304 < s.size then .error (0, 40) else match pData s 0 with
    | .ok (d, q) => if q < s.size then .error (q, 10) else .ok d
    | .error x => .error x
end Go.Proofs.YtdpjjnbelgaagaaGreatDoor

namespace Go.Proofs.YtdpjjnbelgaagaaGreatDoor
open Go.ChangeShapes Go.WideShapes Go.ChangeAt Go.RowKit
set_option maxRecDepth 100000

theorem rdN_bad (s : ByteArray) (at_ : Nat) (lo hi : Int) : ∀ f i n x, rdN s at_ lo hi f i n = .inr x → (x == 0) = false := by
  intro f
  induction f with
  | zero => intro i n x h; simp [rdN] at h; subst h; rfl
  | succ f ih =>
    intro i n x h
    rw [rdN] at h
    split at h
    · simp at h; subst h; rfl
    · split at h
      · exact ih _ _ _ h
      · split at h
        · simp at h; subst h; rfl
        · split at h
          · simp at h; subst h; rfl
          · simp at h
end Go.Proofs.YtdpjjnbelgaagaaGreatDoor

namespace Go.Proofs.YtdpjjnbelgaagaaGreatDoor
open Go.ChangeShapes Go.WideShapes Go.ChangeAt Go.RowKit
set_option maxRecDepth 100000

theorem size_list (s : ByteArray) : s.data.toList.length = s.size := by simp
section
variable {α β : Type}
theorem bind_ok {p : Rdr α} {f : α → Rdr β} {s : ByteArray} {at_ q : Nat} {v : β} : rBind p f s at_ = .ok (v, q) ↔ ∃ a r, p s at_ = .ok (a, r) ∧ f a s r = .ok (v, q) := by
  unfold rBind
  cases h : p s at_ with
  | ok x =>
    obtain ⟨a, r⟩ := x
    exact ⟨fun h2 => ⟨a, r, rfl, h2⟩, fun ⟨a', r', e, h2⟩ => by
      injection e with e
      injection e with e1 e2
      subst e1 e2
      exact h2⟩
  | error x => exact ⟨fun h2 => (by cases h2), fun ⟨a', r', e, _⟩ => (by cases e)⟩
theorem bind_err {p : Rdr α} {f : α → Rdr β} {s : ByteArray} {at_ : Nat} {x : Nat × Int} : rBind p f s at_ = .error x ↔ p s at_ = .error x ∨ ∃ a r, p s at_ = .ok (a, r) ∧ f a s r = .error x := by
  unfold rBind
  cases h : p s at_ with
  | ok y =>
    obtain ⟨a, r⟩ := y
    exact ⟨fun h2 => .inr ⟨a, r, rfl, h2⟩, fun h2 => h2.elim (fun e => by cases e) (fun ⟨a', r', e, h2⟩ => by
      injection e with e
      injection e with e1 e2
      subst e1 e2
      exact h2)⟩
  | error y => exact ⟨fun h2 => .inl (by injection h2 with h2; rw [h2]), fun h2 => h2.elim (fun e => by injection e with e; rw [e]) (fun ⟨a', r', e, _⟩ => by cases e)⟩
/-- From place n0 on: places grow and lie within the bytes; what is wrong is so within them; bytes that are cut off are too short, or are not missed. -/
structure Good (n0 : Nat) (P : Rdr α) : Prop where
  mono : ∀ s at_ v q, n0 ≤ at_ → at_ ≤ s.size → P s at_ = .ok (v, q) → at_ ≤ q ∧ q ≤ s.size
  bad : ∀ s at_ p x, n0 ≤ at_ → at_ ≤ s.size → P s at_ = .error (p, x) → p ≤ s.size ∧ x ≠ 0
  cut : ∀ s k at_ v q, n0 ≤ at_ → at_ ≤ k → k ≤ s.size → P s at_ = .ok (v, q) → (q ≤ k → P (s.extract 0 k) at_ = .ok (v, q)) ∧ (k < q → ∃ p, P (s.extract 0 k) at_ = .error (p, 8) ∧ p ≤ k)
theorem Good.weak {n m : Nat} {P : Rdr α} (h : Good n P) (hn : n ≤ m) : Good m P :=
  ⟨fun s a v q h1 => h.mono s a v q (by omega), fun s a p x h1 => h.bad s a p x (by omega), fun s k a v q h1 => h.cut s k a v q (by omega)⟩
theorem good_pure (n : Nat) (a : α) : Good n (rPure a) := by
  refine ⟨fun s at_ v q _ h1 h => ?_, fun s at_ p x _ _ h => (by cases h), fun s k at_ v q _ h1 h2 h => ?_⟩
  · injection h with h
    injection h with _ h
    omega
  · injection h with h
    injection h with e1 e2
    subst e1 e2
    exact ⟨fun _ => rfl, fun h3 => by omega⟩
theorem good_fail (n : Nat) {x : Int} (hx : x ≠ 0) : Good n (rFail (α := α) n x) := by
  refine ⟨fun s at_ v q _ h1 h => (by cases h), fun s at_ p x h0 h1 h => ?_, fun s k at_ v q _ h1 h2 h => (by cases h)⟩
  injection h with h
  injection h with e1 e2
  subst e1 e2
  exact ⟨by omega, hx⟩
theorem good_at {n : Nat} {p : Rdr α} {f : Nat → α → Rdr β} (hp : Good n p) (hf : ∀ at_ a, n ≤ at_ → Good at_ (f at_ a)) : Good n (rBindAt p f) := by
  refine ⟨fun s at_ v q h0 h1 h => ?_, fun s at_ e x h0 h1 h => ?_, fun s k at_ v q h0 h1 h2 h => ?_⟩
  · obtain ⟨a, r, e1, e2⟩ := bind_ok.1 h
    obtain ⟨k1, k2⟩ := hp.mono s at_ a r h0 h1 e1
    obtain ⟨k3, k4⟩ := (hf at_ a h0).mono s r v q k1 k2 e2
    exact ⟨by omega, k4⟩
  · rcases bind_err.1 h with e3 | ⟨a, r, e1, e2⟩
    · exact hp.bad s at_ e x h0 h1 e3
    · obtain ⟨k1, k2⟩ := hp.mono s at_ a r h0 h1 e1
      exact (hf at_ a h0).bad s r e x k1 k2 e2
  · obtain ⟨a, r, e1, e2⟩ := bind_ok.1 h
    obtain ⟨k1, k2⟩ := hp.mono s at_ a r h0 (by omega) e1
    obtain ⟨k3, k4⟩ := (hf at_ a h0).mono s r v q k1 k2 e2
    obtain ⟨c1, c2⟩ := hp.cut s k at_ a r h0 h1 h2 e1
    by_cases hr : r ≤ k
    · obtain ⟨c3, c4⟩ := (hf at_ a h0).cut s k r v q k1 hr h2 e2
      refine ⟨fun h3 => bind_ok.2 ⟨a, r, c1 hr, c3 h3⟩, fun h3 => ?_⟩
      obtain ⟨p', e3, h4⟩ := c4 h3
      exact ⟨p', bind_err.2 (.inr ⟨a, r, c1 hr, e3⟩), h4⟩
    · refine ⟨fun h3 => by omega, fun h3 => ?_⟩
      obtain ⟨p', e3, h4⟩ := c2 (by omega)
      exact ⟨p', bind_err.2 (.inl e3), h4⟩
theorem good_bind {n : Nat} {p : Rdr α} {f : α → Rdr β} (hp : Good n p) (hf : ∀ a, Good n (f a)) : Good n (rBind p f) :=
  good_at (f := fun _ => f) hp fun _ a h => (hf a).weak h
theorem good_rep {n : Nat} {p : Rdr α} (hp : Good n p) : ∀ k, Good n (pRep p k)
  | 0 => good_pure n []
  | k + 1 => good_bind hp fun _ => good_bind (good_rep hp k) fun _ => good_pure n _
end

theorem cut_list (s : ByteArray) (k : Nat) : (s.extract 0 k).data.toList = s.data.toList.take k := by rw [extract_list, List.drop_zero, Nat.sub_zero]
theorem cut_size {s : ByteArray} {k : Nat} (h : k ≤ s.size) : (s.extract 0 k).size = k := by rw [ByteArray.size_extract]; omega
theorem cut_byte {s : ByteArray} {k i : Nat} (h : i < k) : byteAt (s.extract 0 k) i = byteAt s i := by
  unfold byteAt
  rw [cut_list, List.getD_eq_getElem?_getD, List.getD_eq_getElem?_getD, List.getElem?_take_of_lt h]
theorem cut_cut {s : ByteArray} {k a b : Nat} (h : b ≤ k) : (s.extract 0 k).extract a b = s.extract a b := by
  apply ba_ext
  rw [extract_list, cut_list, extract_list, List.drop_take, List.take_take, Nat.min_eq_left (by omega)]
theorem rdN_cut {s : ByteArray} {at_ k : Nat} {lo hi : Int} (hk : k ≤ s.size) : ∀ f i n (m j : Nat), rdN s at_ lo hi f i n = .inl (m, j) →
    (at_ + j ≤ k → rdN (s.extract 0 k) at_ lo hi f i n = .inl (m, j)) ∧ (k < at_ + j → rdN (s.extract 0 k) at_ lo hi f i n = .inr 8) := by
  intro f
  induction f with
  | zero => intro i n m j h; simp [rdN] at h
  | succ f ih =>
    intro i n m j h
    rw [rdN] at h
    rw [rdN, cut_size hk]
    by_cases h1 : s.size ≤ at_ + i
    · rw [if_pos h1] at h; cases h
    rw [if_neg h1] at h
    by_cases h2 : k ≤ at_ + i
    · rw [if_pos h2]
      refine ⟨fun h3 => ?_, fun _ => rfl⟩
      exfalso
      by_cases h4 : 128 ≤ byteAt s (at_ + i)
      · rw [if_pos h4] at h
        have : i + 1 < j ∨ i + 1 ≥ j := by omega
        rcases this with h5 | h5
        · omega
        · have hlt : ∀ f i n (m j : Nat), rdN s at_ lo hi f i n = .inl (m, j) → i < j := by
            intro f
            induction f with
            | zero => intro i n m j h; simp [rdN] at h
            | succ f ih2 =>
              intro i n m j h
              rw [rdN] at h
              split at h
              · cases h
              · split at h
                · have := ih2 _ _ _ _ h; omega
                · split at h
                  · cases h
                  · split at h
                    · cases h
                    · injection h with h
                      injection h with _ h
                      omega
          have := hlt _ _ _ _ _ h
          omega
      · rw [if_neg h4] at h
        split at h
        · cases h
        · split at h
          · cases h
          · injection h with h
            injection h with _ h
            omega
    rw [if_neg h2, cut_byte (by omega)]
    by_cases h4 : 128 ≤ byteAt s (at_ + i)
    · rw [if_pos h4] at h ⊢
      exact ih _ _ _ _ h
    · rw [if_neg h4] at h ⊢
      split at h
      · cases h
      · rename_i h5
        rw [if_neg h5]
        split at h
        · cases h
        · rename_i h6
          rw [if_neg h6]
          injection h with h
          injection h with e1 e2
          subst e1 e2
          exact ⟨fun _ => rfl, fun h7 => by omega⟩
theorem good_num (n0 : Nat) (lo hi : Int) : Good n0 (pNum lo hi) := by
  refine ⟨fun s at_ v q _ h1 h => ?_, fun s at_ p x _ h1 h => ?_, fun s k at_ v q _ h1 h2 h => ?_⟩
  · unfold pNum at h
    cases hr : rdN s at_ lo hi 9 0 0 with
    | inl y =>
      obtain ⟨n, j⟩ := y
      rw [hr] at h
      injection h with h
      injection h with e1 e2
      subst e1 e2
      obtain ⟨a1, a2, _⟩ := rdN_in s at_ lo hi 9 0 0 n j rfl (by simp) hr
      omega
    | inr y => rw [hr] at h; cases h
  · unfold pNum at h
    cases hr : rdN s at_ lo hi 9 0 0 with
    | inl y => rw [hr] at h; cases h
    | inr y =>
      rw [hr] at h
      injection h with h
      injection h with e1 e2
      subst e1 e2
      have := rdN_bad s at_ lo hi 9 0 0 y hr
      exact ⟨h1, by simpa using this⟩
  · unfold pNum at h ⊢
    cases hr : rdN s at_ lo hi 9 0 0 with
    | inr y => rw [hr] at h; cases h
    | inl y =>
      obtain ⟨n, j⟩ := y
      rw [hr] at h
      injection h with h
      injection h with e1 e2
      subst e1 e2
      obtain ⟨c1, c2⟩ := rdN_cut (s := s) (at_ := at_) (k := k) (lo := lo) (hi := hi) h2 9 0 0 n j hr
      exact ⟨fun h3 => by rw [c1 h3], fun h3 => ⟨at_, by rw [c2 h3], h1⟩⟩
theorem good_text (n0 : Nat) (most : Int) : Good n0 (pText most) := by
  refine ⟨fun s at_ v q _ h1 h => ?_, fun s at_ p x _ h1 h => ?_, fun s k at_ v q _ h1 h2 h => ?_⟩
  · unfold pText at h
    cases hr : rdN s at_ 0 most 9 0 0 with
    | inl y =>
      obtain ⟨n, j⟩ := y
      rw [hr] at h
      simp only at h
      split at h
      · cases h
      · injection h with h
        injection h with e1 e2
        subst e1 e2
        omega
    | inr y => rw [hr] at h; cases h
  · unfold pText at h
    cases hr : rdN s at_ 0 most 9 0 0 with
    | inl y =>
      obtain ⟨n, j⟩ := y
      rw [hr] at h
      simp only at h
      obtain ⟨a1, a2, _⟩ := rdN_in s at_ 0 most 9 0 0 n j rfl (by simp) hr
      split at h
      · injection h with h
        injection h with e1 e2
        subst e1 e2
        exact ⟨a1, by decide⟩
      · cases h
    | inr y =>
      rw [hr] at h
      injection h with h
      injection h with e1 e2
      subst e1 e2
      have := rdN_bad s at_ 0 most 9 0 0 y hr
      exact ⟨h1, by simpa using this⟩
  · unfold pText at h ⊢
    cases hr : rdN s at_ 0 most 9 0 0 with
    | inr y => rw [hr] at h; cases h
    | inl y =>
      obtain ⟨n, j⟩ := y
      rw [hr] at h
      simp only at h
      obtain ⟨c1, c2⟩ := rdN_cut (s := s) (at_ := at_) (k := k) (lo := 0) (hi := most) h2 9 0 0 n j hr
      split at h
      · cases h
      · rename_i hs
        injection h with h
        injection h with e1 e2
        subst e1 e2
        by_cases h4 : at_ + j ≤ k
        · rw [c1 h4]
          simp only
          refine ⟨fun h3 => ?_, fun h3 => ⟨at_ + j, ?_, h4⟩⟩
          · rw [if_neg (by rw [cut_size h2]; omega), cut_cut (by omega)]
          · rw [if_pos (by rw [cut_size h2]; omega)]
        · rw [c2 (by omega)]
          exact ⟨fun h3 => by omega, fun _ => ⟨at_, rfl, h1⟩⟩
theorem good_many {α : Type} {n : Nat} {p : Rdr α} (hp : Good n p) (lo hi : Int) : Good n (pMany lo hi p) := good_bind (good_num n _ _) fun _ => good_rep hp _
theorem good_evr (n : Nat) : Good n pEVR := good_bind (good_num n _ _) fun _ => good_bind (good_text n _) fun _ => good_bind (good_text n _) fun _ => good_pure n _
theorem good_dep (n : Nat) : Good n pDep := good_bind (good_text n _) fun _ => good_bind (good_num n _ _) fun op => by
  by_cases h : op = 0
  · simp only [if_pos h]; exact good_pure n _
  · simp only [if_neg h]; exact good_bind (good_evr n) fun _ => good_pure n _
theorem good_rich : ∀ (m n : Nat), Good n (pRich m)
  | 0, n => good_at (good_num n _ _) fun at_ k _ => by
    by_cases h : k = 1
    · simp only [if_pos h]; exact good_bind (good_dep at_) fun _ => good_pure at_ _
    · simp only [if_neg h]; exact good_fail at_ (by decide)
  | m + 1, n => good_at (good_num n _ _) fun at_ k _ => by
    by_cases h : k = 1
    · simp only [if_pos h]; exact good_bind (good_dep at_) fun _ => good_pure at_ _
    · simp only [if_neg h]; exact good_bind (good_many (good_rich m at_) _ _) fun _ => good_pure at_ _
theorem good_riches (n : Nat) : Good n pRiches := good_bind (good_many (good_rich 8 n) _ _) fun _ => good_pure n _
theorem good_deps (n : Nat) : Good n pDeps := good_many (good_dep n) _ _
theorem good_body (n : Nat) : Good n pBody :=
  good_bind (good_text n _) fun _ => good_bind (good_evr n) fun _ => good_bind (good_num n _ _) fun _ => good_bind (good_text n _) fun _ => good_bind (good_deps n) fun _ => good_bind (good_riches n) fun _ => good_bind (good_riches n) fun _ =>
  good_bind (good_deps n) fun _ => good_bind (good_riches n) fun _ => good_bind (good_riches n) fun _ => good_bind (good_riches n) fun _ => good_bind (good_riches n) fun _ => good_bind (good_many (good_text n _) _ _) fun _ => good_pure n _
theorem good_pkg (n : Nat) : Good n pPkg := good_at (good_body n) fun at_ p _ => by
  by_cases h : mayP p = true
  · simp only [if_pos h]; exact good_pure at_ _
  · simp only [if_neg h]; exact good_fail at_ (by decide)
theorem good_repos (n : Nat) : ∀ k left, Good n (pRepos k left)
  | 0, _ => good_pure n _
  | k + 1, _ => good_bind (good_bind (good_num n _ _) fun _ => good_bind (good_many (good_pkg n) _ _) fun _ => good_pure n _) fun _ => good_bind (good_repos n k _) fun _ => good_pure n _
theorem good_data (n : Nat) : Good n pData := good_bind (good_num n _ _) fun _ => good_bind (good_repos n _ _) fun _ => good_bind (good_many (good_pkg n) _ _) fun _ => good_pure n _
end Go.Proofs.YtdpjjnbelgaagaaGreatDoor

namespace Go.Proofs.YtdpjjnbelgaagaaGreatDoor
open Go.ChangeShapes Go.WideShapes Go.ChangeAt Go.RowKit Go.Deep
set_option maxRecDepth 100000

/-- Cells that lie from a place on. -/
def CellsAt (w : World) (b o : Nat) (cs : List Value) : Prop := b < w.heap.size ∧ ∀ i, i < cs.length → w.cell? ⟨b, o + i, none⟩ = cs[i]?
theorem CellsAt.same {w w' : World} {b o : Nat} {cs : List Value} (h : CellsAt w b o cs) (hb : w'.heap[b]? = w.heap[b]?) (hs : w.heap.size ≤ w'.heap.size) : CellsAt w' b o cs :=
  ⟨Nat.lt_of_lt_of_le h.1 hs, fun i hi => (World.cell?_of_block (w := w) hb).trans (h.2 i hi)⟩
theorem CellsAt.below {w w' : World} {b o : Nat} {cs : List Value} (h : CellsAt w b o cs) (hb : Below w.heap.size w w') : CellsAt w' b o cs := h.same (hb.block b h.1) hb.size
theorem RichAt.cs {w : World} {b o : Nat} {r : RichD} {s : Value} (h : RichAt w b o r s) : CellsAt w b o (richCs r s) := by
  refine ⟨h.lt, fun i hi => ?_⟩
  have : i = 0 ∨ i = 1 ∨ i = 2 ∨ i = 3 ∨ i = 4 ∨ i = 5 ∨ i = 6 := by simp only [richCs, List.length_cons, List.length_nil] at hi; omega
  rcases this with rfl | rfl | rfl | rfl | rfl | rfl | rfl
  · exact h.c0
  · exact h.c1
  · exact h.c2
  · exact h.c3
  · exact h.c4
  · exact h.c5
  · exact h.c6
theorem CellsAt.rich {w : World} {b o : Nat} {r : RichD} {s : Value} (h : CellsAt w b o (richCs r s)) : RichAt w b o r s :=
  ⟨h.2 0 (show 0 < 7 by omega), h.2 1 (show 1 < 7 by omega), h.2 2 (show 2 < 7 by omega), h.2 3 (show 3 < 7 by omega), h.2 4 (show 4 < 7 by omega), h.2 5 (show 5 < 7 by omega), h.2 6 (show 6 < 7 by omega), h.1⟩
/-- A slice's value holds a rich dependency's Args, all in blocks of which B holds. -/
inductive ArgsP (B : World → Nat → Prop) (w : World) : RichD → Value → Prop
  | mk (r : RichD) (a : Option Addr) (c : Nat) (S : Nat → Value) (hd : fitR r.kind r.dep) (hn : r.n ≤ 9223372036854775807)
      (hA : ∀ j, j < r.n → ∃ b o, a = some ⟨b, o, none⟩ ∧ B w b ∧ RichAt w b (o + j * 7) (r.args j) (S j))
      (hS : ∀ j, j < r.n → ArgsP B w (r.args j) (S j)) : ArgsP B w r (.slice a r.n c)
theorem ArgsP.is {B : World → Nat → Prop} {w : World} {r : RichD} {s : Value} (h : ArgsP B w r s) : IsArgs w r s := by
  induction h with
  | mk r a c S hd hn hA hS ih =>
    refine .mk r a c S hd hn (fun j hj => ?_) ih
    obtain ⟨b, o, h1, _, h2⟩ := hA j hj
    exact ⟨b, o, h1, h2⟩
theorem IsArgs.p {w : World} {r : RichD} {s : Value} (h : IsArgs w r s) : ArgsP (fun _ _ => True) w r s := by
  induction h with
  | mk r a c S hd hn hA hS ih =>
    refine .mk r a c S hd hn (fun j hj => ?_) ih
    obtain ⟨b, o, h1, h2⟩ := hA j hj
    exact ⟨b, o, h1, trivial, h2⟩
theorem ArgsIn.p {B : Nat → Prop} {w : World} {r : RichD} {s : Value} (h : ArgsIn B w r s) : ArgsP (fun w b => B b ∧ ∀ i, w.frozen? ⟨b, i, none⟩ = false) w r s := by
  induction h with
  | mk r a c S hd hn hA hS ih =>
    refine .mk r a c S hd hn (fun j hj => ?_) ih
    obtain ⟨b, o, h1, h2, h3, h4⟩ := hA j hj
    exact ⟨b, o, h1, ⟨h2, h3⟩, h4⟩
theorem ArgsP.keep {B B' : World → Nat → Prop} {w w' : World} {r : RichD} {s : Value} (h : ArgsP B w r s) (hs : w.heap.size ≤ w'.heap.size) (hk : ∀ b, B w b → b < w.heap.size → w'.heap[b]? = w.heap[b]? ∧ B' w' b) : ArgsP B' w' r s := by
  induction h with
  | mk r a c S hd hn hA hS ih =>
    refine .mk r a c S hd hn (fun j hj => ?_) ih
    obtain ⟨b, o, h1, h2, h3⟩ := hA j hj
    obtain ⟨h5, h6⟩ := hk b h2 h3.lt
    exact ⟨b, o, h1, h6, h3.same h5 hs⟩
theorem ArgsP.one {B : World → Nat → Prop} {w : World} {r : RichD} {s : Value} (h : ArgsP B w r s) : s.oneCell' = true := by
  cases h
  rfl
/-! ### Kinds of elements -/
/-- How many cells an element has, which, and what its cells lead to. -/
structure Kd (α : Type) where
  R : Type
  size : Nat
  cells : α → R → List Value
  holds : (World → Nat → Prop) → World → α → R → Prop
  len : ∀ x r, (cells x r).length = size
  one : ∀ {B : World → Nat → Prop} {w : World} {x : α} {r : R}, holds B w x r → ∀ u ∈ cells x r, u.oneCell' = true
  keep : ∀ {B B' : World → Nat → Prop} {w w' : World} {x : α} {r : R}, holds B w x r → w.heap.size ≤ w'.heap.size → (∀ b, B w b → b < w.heap.size → w'.heap[b]? = w.heap[b]? ∧ B' w' b) → holds B' w' x r
section
variable {α : Type} {K : Kd α} {B B' : World → Nat → Prop} {w w' : World} {l : List α} {v : Value}
/-- A slice's value holds a list. -/
def LIn (K : Kd α) (B : World → Nat → Prop) (w : World) (l : List α) (v : Value) : Prop :=
  ∃ (a : Option Addr) (c : Nat), v = .slice a l.length c ∧ l.length ≤ 4611686018427387904 ∧
    ∀ j (hj : j < l.length), ∃ (b o : Nat) (r : K.R), a = some ⟨b, o, none⟩ ∧ B w b ∧ CellsAt w b (o + j * K.size) (K.cells l[j] r) ∧ K.holds B w l[j] r
theorem LIn.keep (h : LIn K B w l v) (hs : w.heap.size ≤ w'.heap.size) (hk : ∀ b, B w b → b < w.heap.size → w'.heap[b]? = w.heap[b]? ∧ B' w' b) : LIn K B' w' l v := by
  obtain ⟨a, c, rfl, h1, h2⟩ := h
  refine ⟨a, c, rfl, h1, fun j hj => ?_⟩
  obtain ⟨b, o, r, h3, h4, h5, h6⟩ := h2 j hj
  obtain ⟨h7, h8⟩ := hk b h4 h5.1
  exact ⟨b, o, r, h3, h8, h5.same h7 hs, K.keep h6 hs hk⟩
theorem LIn.below (h : LIn K B w l v) (hb : Below w.heap.size w w') (hB : ∀ b, B w b → b < w.heap.size → B' w' b) : LIn K B' w' l v := h.keep hb.size fun b h1 h2 => ⟨hb.block b h2, hB b h1 h2⟩
theorem LIn.form (h : LIn K B w l v) : ∃ a c, v = .slice a l.length c := by
  obtain ⟨a, c, rfl, _⟩ := h
  exact ⟨a, c, rfl⟩
theorem LIn.bound (h : LIn K B w l v) : l.length ≤ 4611686018427387904 := by
  obtain ⟨a, c, _, h, _⟩ := h
  exact h
theorem LIn.one (h : LIn K B w l v) : v.oneCell' = true := by
  obtain ⟨a, c, rfl⟩ := h.form
  rfl
theorem LIn.nil (K : Kd α) (B : World → Nat → Prop) (w : World) : LIn K B w [] (.slice none 0 0) :=
  ⟨none, 0, rfl, by simp, fun j hj => absurd hj (Nat.not_lt_zero j)⟩
/-- The slice's value being known: where it lies, and each element. -/
theorem LIn.at_ {a : Option Addr} {c : Nat} (h : LIn K B w l (.slice a l.length c)) (j : Nat) (hj : j < l.length) : ∃ (b o : Nat) (r : K.R), a = some ⟨b, o, none⟩ ∧ B w b ∧ CellsAt w b (o + j * K.size) (K.cells l[j] r) ∧ K.holds B w l[j] r := by
  obtain ⟨a', c', he, _, h2⟩ := h
  injection he with he _ _
  subst he
  exact h2 j hj
end

/-! ### A list under way, in memory of the call's own -/
abbrev free (n0 : Nat) : World → Nat → Prop := fun w b => n0 ≤ b ∧ ∀ i, w.frozen? ⟨b, i, none⟩ = false
abbrev freeBut (n0 : Nat) (v : Value) : World → Nat → Prop := fun w b => n0 ≤ b ∧ v.ownBlock ≠ some b ∧ ∀ i, w.frozen? ⟨b, i, none⟩ = false
section
variable {α : Type}
def enL (K : Kd α) (ps : List (α × K.R)) : List Value := ps.flatMap fun p => K.cells p.1 p.2
theorem enL_app (K : Kd α) (a b : List (α × K.R)) : enL K (a ++ b) = enL K a ++ enL K b := List.flatMap_append
theorem enL_one' (K : Kd α) (x : α) (r : K.R) : enL K [(x, r)] = K.cells x r := by simp [enL]
theorem enL_len (K : Kd α) : ∀ ps : List (α × K.R), (enL K ps).length = ps.length * K.size
  | [] => by simp [enL]
  | p :: ps => by
    show (K.cells p.1 p.2 ++ enL K ps).length = _
    rw [List.length_append, K.len, enL_len K ps, List.length_cons, Nat.add_mul, Nat.one_mul, Nat.add_comm]
theorem enL_at (K : Kd α) : ∀ (ps : List (α × K.R)) (j : Nat) (hj : j < ps.length) (i : Nat), i < K.size → (enL K ps)[j * K.size + i]? = (K.cells ps[j].1 ps[j].2)[i]?
  | p :: ps, 0, _, i, hi => by
    show (K.cells p.1 p.2 ++ enL K ps)[0 * K.size + i]? = _
    rw [Nat.zero_mul, Nat.zero_add, List.getElem?_append_left (by rw [K.len]; exact hi)]
    rfl
  | p :: ps, j + 1, hj, i, hi => by
    show (K.cells p.1 p.2 ++ enL K ps)[(j + 1) * K.size + i]? = _
    have hl := K.len p.1 p.2
    rw [List.getElem?_append_right (by rw [hl, Nat.add_mul]; omega), show (j + 1) * K.size + i - (K.cells p.1 p.2).length = j * K.size + i from by rw [hl, Nat.add_mul]; omega, enL_at K ps j (by simpa using hj) i hi]
    rfl
/-- k elements are gathered in a slice of its own, from block n0 on. -/
structure Acc (K : Kd α) (t : TypeId) (n0 : Nat) (w : World) (l : List α) (v : Value) : Prop where
  ex : ∃ ps : List (α × K.R), ps.map Prod.fst = l ∧ Own w t K.size v l.length (enL K ps) ∧ (∀ b, v.ownBlock = some b → n0 ≤ b) ∧ ∀ p ∈ ps, K.holds (freeBut n0 v) w p.1 p.2
theorem Acc.nil (K : Kd α) (t : TypeId) (n0 : Nat) (w : World) : Acc K t n0 w [] (.slice none 0 0) :=
  ⟨[], rfl, Own.nil _ _ _, fun b h => by simp [Value.ownBlock] at h, fun p h => by cases h⟩
theorem Own.frozen {w : World} {t : TypeId} {size n : Nat} {v : Value} {xs : List Value} (h : Own w t size v n xs) : ∀ b, v.ownBlock = some b → ∀ i, w.frozen? ⟨b, i, none⟩ = false := fun b hb i => by
  obtain ⟨cur, hc⟩ := h.blk hb
  exact hc.frozen i
theorem Acc.keep {K : Kd α} {t : TypeId} {n0 : Nat} {w w' : World} {l : List α} {v : Value} (h : Acc K t n0 w l v) (hs : w.heap.size ≤ w'.heap.size) (hk : ∀ b, n0 ≤ b → b < w.heap.size → w'.heap[b]? = w.heap[b]?) : Acc K t n0 w' l v := by
  obtain ⟨ps, h1, h2, h3, h4⟩ := h.ex
  refine ⟨ps, h1, h2.keep fun b hb => hk b (h3 b hb) (h2.lt b hb), h3, fun p hp => K.keep (h4 p hp) hs fun b ⟨k1, k2, k3⟩ k4 => ⟨hk b k1 k4, k1, k2, fun i => (World.frozen?_of_block (w := w) (hk b k1 k4)).trans (k3 i)⟩⟩
theorem Acc.below {K : Kd α} {t : TypeId} {n0 : Nat} {w w' : World} {l : List α} {v : Value} (h : Acc K t n0 w l v) (hb : Below w.heap.size w w') : Acc K t n0 w' l v := h.keep hb.size fun b _ h2 => hb.block b h2
theorem Acc.own {K : Kd α} {t : TypeId} {n0 : Nat} {w : World} {l : List α} {v : Value} (h : Acc K t n0 w l v) : ∃ xs, Own w t K.size v l.length xs ∧ ∀ u ∈ xs, u.oneCell' = true := by
  obtain ⟨ps, h1, h2, h3, h4⟩ := h.ex
  refine ⟨_, h2, fun u hu => ?_⟩
  obtain ⟨p, hp, hu⟩ := List.mem_flatMap.1 hu
  exact K.one (h4 p hp) u hu
/-- One more is appended. -/
theorem Acc.push {K : Kd α} {t : TypeId} {n0 m0 : Nat} {w W' : World} {l : List α} {v v' : Value} {x : α} {r : K.R} {xs : List Value} (hown : Own w t K.size v l.length xs) (h : Acc K t n0 w l v) (hm : n0 ≤ m0) (hx : K.holds (free m0) w x r) (hv : ∀ b, v.ownBlock = some b → b < m0)
    (hn : n0 ≤ w.heap.size) (hO : Own W' t K.size v' (l.length + 1) (xs ++ K.cells x r)) (hg : w.grownBy W' v.ownBlock) (hat : v'.ownBlock = v.ownBlock ∨ v'.ownBlock = some w.heap.size) : Acc K t n0 W' (l ++ [x]) v' := by
  obtain ⟨ps, h1, h2, h3, h4⟩ := h.ex
  have hxs : xs = enL K ps := by
    rcases hown.2 with ⟨e1, e2⟩ | ⟨g, off, cap, cur, e1, hb, _, _, _, hc⟩
    · have a1 : xs = [] := List.eq_nil_of_length_eq_zero (by rw [hown.1, e2]; simp)
      have a2 : enL K ps = [] := List.eq_nil_of_length_eq_zero (by rw [h2.1, e2]; simp)
      rw [a1, a2]
    · rcases h2.2 with ⟨e3, _⟩ | ⟨g', off', cap', cur', e3, hb', _, _, _, hc'⟩
      · rw [e1] at e3; cases e3
      · rw [e1] at e3
        injection e3 with e3 _ _
        injection e3 with e3
        injection e3 with e4 e5
        subst e4 e5
        obtain ⟨_, rfl⟩ := hb.uniq hb'
        have hl : xs.length = (enL K ps).length := hown.1.trans h2.1.symm
        apply List.ext_getElem? fun i => ?_
        by_cases hi : i < xs.length
        · rw [← hc i hi, ← hc' i (by omega)]
        · rw [List.getElem?_eq_none (by omega), List.getElem?_eq_none (by omega)]
  subst hxs
  have hfar : ∀ b, b < w.heap.size → v.ownBlock ≠ some b → v'.ownBlock ≠ some b := fun b hb hne e => by
    rcases hat with e2 | e2
    · exact hne (e2 ▸ e)
    · rw [e2] at e
      injection e with e
      omega
  have hblk : ∀ b, b < w.heap.size → v.ownBlock ≠ some b → W'.heap[b]? = w.heap[b]? := fun b hb hne => hg.block b hb fun e => hne e.symm
  refine ⟨ps ++ [(x, r)], by rw [List.map_append, h1]; rfl, ?_, fun b hb => ?_, fun p hp => ?_⟩
  · rw [List.length_append, enL_app, enL_one']
    exact hO
  · rcases hat with e | e
    · exact h3 b (e ▸ hb)
    · rw [e] at hb
      injection hb with hb
      omega
  · rcases List.mem_append.1 hp with hp | hp
    · exact K.keep (h4 p hp) hg.size fun b ⟨k1, k2, k3⟩ k4 => ⟨hblk b k4 k2, k1, hfar b k4 k2, fun i => (World.frozen?_of_block (w := w) (hblk b k4 k2)).trans (k3 i)⟩
    · simp only [List.mem_singleton] at hp
      subst hp
      have hne : ∀ b, m0 ≤ b → v.ownBlock ≠ some b := fun b hb e => by have := hv b e; omega
      exact K.keep hx hg.size fun b ⟨k1, k3⟩ k4 => ⟨hblk b k4 (hne b k1), by omega, hfar b k4 (hne b k1), fun i => (World.frozen?_of_block (w := w) (hblk b k4 (hne b k1))).trans (k3 i)⟩
theorem Acc.done {K : Kd α} {t : TypeId} {n0 : Nat} {w : World} {l : List α} {v : Value} (h : Acc K t n0 w l v) (hl : l.length ≤ 4611686018427387904) (_h1 : 0 < K.size) : LIn K (free n0) w l v := by
  obtain ⟨ps, rfl, h2, h3, h4⟩ := h.ex
  have hps : (ps.map Prod.fst).length = ps.length := List.length_map _
  obtain ⟨a, c, rfl, _, _, hc⟩ := h2.form
  refine ⟨a, c, rfl, hl, fun j hj => ?_⟩
  obtain ⟨g, off, rfl, hcell, hf, hlt⟩ := hc (by omega)
  have hj' : j < ps.length := by omega
  refine ⟨g, off, ps[j].2, rfl, ⟨h3 g rfl, hf⟩, ⟨hlt, fun i hi => ?_⟩, ?_⟩
  · have hi' : i < K.size := by rw [K.len] at hi; exact hi
    have hb : j * K.size + i < (enL K ps).length := by
      rw [enL_len]
      have : (j + 1) * K.size ≤ ps.length * K.size := Nat.mul_le_mul_right _ (by omega)
      rw [Nat.add_mul] at this
      omega
    rw [Nat.add_assoc, hcell _ hb, enL_at K ps j hj' i hi', List.getElem_map]
  · rw [List.getElem_map]
    exact K.keep (h4 ps[j] (List.getElem_mem _)) (Nat.le_refl _) fun b ⟨k1, _, k3⟩ _ => ⟨rfl, k1, k3⟩
end

/-! ### The kinds -/
def strK : Kd ByteArray where
  R := Unit
  size := 1
  cells s _ := [.string s]
  holds _ _ s _ := s.size ≤ 9223372036854775807
  len _ _ := rfl
  one _ u hu := by simp only [List.mem_singleton] at hu; subst hu; rfl
  keep h _ _ := h
def depK : Kd DepD where
  R := Unit
  size := 5
  cells d _ := d.cs
  holds _ _ d _ := d.fit ∧ 0 ≤ d.op ∧ d.op < 256
  len _ _ := rfl
  one {_ _ d _} _ u hu := enD_one [d] u (by show u ∈ d.cs ++ []; rw [List.append_nil]; exact hu)
  keep h _ _ := h
def richK : Kd RichD where
  R := Value
  size := 7
  cells r s := richCs r s
  holds B w r s := ArgsP B w r s
  len _ _ := rfl
  one {_ _ r s} h u hu := enR_one (f := fun _ => r) (S := fun _ => s) 1 (fun _ _ => h.one) u hu
  keep h hs hk := h.keep hs hk
/-- The slices of a package. -/
structure PkgR where
  prov : Value
  req : Value
  con : Value
  obs : Value
  reco : Value
  sup : Value
  sug : Value
  enh : Value
  files : Value
def pkgCs (p : PkgD) (r : PkgR) : List Value := [.string p.name, .int .i64 p.ep, .string p.ver, .string p.rel, .int .u8 p.arch, .string p.vendor, r.prov, r.req, r.con, r.obs, r.reco, r.sup, r.sug, r.enh, r.files]
abbrev PkgD.val (p : PkgD) (r : PkgR) : Value := .agg #[.string p.name, .int .i64 p.ep, .string p.ver, .string p.rel, .int .u8 p.arch, .string p.vendor, r.prov, r.req, r.con, r.obs, r.reco, r.sup, r.sug, r.enh, r.files]
def argL (r : RichD) : List RichD := (List.range r.n).map r.args
theorem argL_len (r : RichD) : (argL r).length = r.n := by simp [argL]
structure PkgIn (B : World → Nat → Prop) (w : World) (p : PkgD) (r : PkgR) : Prop where
  s1 : p.name.size ≤ 9223372036854775807
  s2 : p.ver.size ≤ 9223372036854775807
  s3 : p.rel.size ≤ 9223372036854775807
  s4 : p.vendor.size ≤ 9223372036854775807
  ar : 0 ≤ p.arch ∧ p.arch < 256
  ep : -9223372036854775808 ≤ p.ep ∧ p.ep ≤ 9223372036854775807
  prov : LIn depK B w p.prov r.prov
  req : LIn richK B w (argL p.req) r.req
  con : LIn richK B w (argL p.con) r.con
  obs : LIn depK B w p.obs r.obs
  reco : LIn richK B w (argL p.reco) r.reco
  sup : LIn richK B w (argL p.sup) r.sup
  sug : LIn richK B w (argL p.sug) r.sug
  enh : LIn richK B w (argL p.enh) r.enh
  files : LIn strK B w p.files r.files
theorem PkgIn.keep {B B' : World → Nat → Prop} {w w' : World} {p : PkgD} {r : PkgR} (h : PkgIn B w p r) (hs : w.heap.size ≤ w'.heap.size) (hk : ∀ b, B w b → b < w.heap.size → w'.heap[b]? = w.heap[b]? ∧ B' w' b) : PkgIn B' w' p r :=
  ⟨h.s1, h.s2, h.s3, h.s4, h.ar, h.ep, h.prov.keep hs hk, h.req.keep hs hk, h.con.keep hs hk, h.obs.keep hs hk, h.reco.keep hs hk, h.sup.keep hs hk, h.sug.keep hs hk, h.enh.keep hs hk, h.files.keep hs hk⟩
def pkgK : Kd PkgD where
  R := PkgR
  size := 15
  cells p r := pkgCs p r
  holds B w p r := PkgIn B w p r
  len _ _ := rfl
  one {_ _ p r} h u hu := by
    simp only [pkgCs, List.mem_cons, List.not_mem_nil, or_false] at hu
    rcases hu with rfl | rfl | rfl | rfl | rfl | rfl | rfl | rfl | rfl | rfl | rfl | rfl | rfl | rfl | rfl
    · exact rfl
    · exact rfl
    · exact rfl
    · exact rfl
    · exact rfl
    · exact rfl
    · exact h.prov.one
    · exact h.req.one
    · exact h.con.one
    · exact h.obs.one
    · exact h.reco.one
    · exact h.sup.one
    · exact h.sug.one
    · exact h.enh.one
    · exact h.files.one
  keep h hs hk := h.keep hs hk
def repoK : Kd RepoD where
  R := Value
  size := 2
  cells x v := [.int .i64 x.prio, v]
  holds B w x v := (-9223372036854775808 ≤ x.prio ∧ x.prio ≤ 9223372036854775807) ∧ LIn pkgK B w x.pkgs v
  len _ _ := rfl
  one {_ _ x v} h u hu := by
    simp only [List.mem_cons, List.not_mem_nil, or_false] at hu
    rcases hu with rfl | rfl
    · rfl
    · exact h.2.one
  keep h hs hk := ⟨h.1, h.2.keep hs hk⟩
structure DataIn (B : World → Nat → Prop) (w : World) (d : DataD) (vr vi : Value) : Prop where
  repos : LIn repoK B w d.repos vr
  inst : LIn pkgK B w d.inst vi
theorem DataIn.keep {B B' : World → Nat → Prop} {w w' : World} {d : DataD} {vr vi : Value} (h : DataIn B w d vr vi) (hs : w.heap.size ≤ w'.heap.size) (hk : ∀ b, B w b → b < w.heap.size → w'.heap[b]? = w.heap[b]? ∧ B' w' b) : DataIn B' w' d vr vi :=
  ⟨h.repos.keep hs hk, h.inst.keep hs hk⟩
abbrev anyB : World → Nat → Prop := fun _ _ => True
/-- Args as a list. -/
theorem ArgsP.list {B : World → Nat → Prop} {w : World} {r : RichD} {v : Value} (h : ArgsP B w r v) (hn : r.n ≤ 4611686018427387904) : LIn richK B w (argL r) v := by
  obtain ⟨r, a, c, S, hd, _, hA, hS⟩ := h
  refine ⟨a, c, by rw [argL_len], by rw [argL_len]; exact hn, fun j hj => ?_⟩
  have hj' : j < r.n := by rw [argL_len] at hj; exact hj
  obtain ⟨b, o, h1, h2, h3⟩ := hA j hj'
  have e : (argL r)[j] = r.args j := by simp [argL]
  rw [e]
  exact ⟨b, o, S j, h1, h2, h3.cs, hS j hj'⟩
theorem LIn.args {B : World → Nat → Prop} {w : World} {r : RichD} {v : Value} (h : LIn richK B w (argL r) v) (hd : fitR r.kind r.dep) : ArgsP B w r v := by
  obtain ⟨a, c, rfl, hn, h2⟩ := h
  rw [argL_len] at hn ⊢
  have hall : ∀ j : Nat, ∃ s : Value, j < r.n → (∃ b o, a = some ⟨b, o, none⟩ ∧ B w b ∧ RichAt w b (o + j * 7) (r.args j) s) ∧ ArgsP B w (r.args j) s := fun j => by
    by_cases hj : j < r.n
    · obtain ⟨b, o, s, h3, h4, h5, h6⟩ := h2 j (by rw [argL_len]; exact hj)
      have e : (argL r)[j]'(by rw [argL_len]; exact hj) = r.args j := by simp [argL]
      rw [e] at h5 h6
      exact ⟨s, fun _ => ⟨⟨b, o, h3, h4, h5.rich⟩, h6⟩⟩
    · exact ⟨.slice none 0 0, fun h => absurd h hj⟩
  obtain ⟨S, hS⟩ := Classical.axiomOfChoice hall
  exact .mk r a c S hd (by omega) (fun j hj => (hS j hj).1) (fun j hj => (hS j hj).2)
theorem ArgsP.fit {B : World → Nat → Prop} {w : World} {r : RichD} {v : Value} (h : ArgsP B w r v) : fitR r.kind r.dep := by
  cases h
  assumption
end Go.Proofs.YtdpjjnbelgaagaaGreatDoor

namespace Go.Proofs.YtdpjjnbelgaagaaGreatDoor
open Go.ChangeShapes Go.WideShapes Go.ChangeAt Go.RowKit
set_option maxRecDepth 100000

section
variable {α β : Type}
/-- Wherever these bytes stand, that is read of them. -/
def Enc (P : Rdr α) (v : α) (b : List UInt8) : Prop := ∀ (s : ByteArray) (at_ : Nat) (rest : List UInt8), s.data.toList.drop at_ = b ++ rest → P s at_ = .ok (v, at_ + b.length)
theorem enc_pure (v : α) : Enc (rPure v) v [] := fun _ _ _ _ => rfl
theorem enc_at {p : Rdr α} {f : Nat → α → Rdr β} {a : α} {v : β} {b1 b2 : List UInt8} (h1 : Enc p a b1) (h2 : ∀ at_, Enc (f at_ a) v b2) : Enc (rBindAt p f) v (b1 ++ b2) := fun s at_ rest hd => by
  rw [List.append_assoc] at hd
  have e1 := h1 s at_ (b2 ++ rest) hd
  have e2 := h2 at_ s (at_ + b1.length) rest (by rw [← List.drop_drop, hd, List.drop_left])
  show rBind p (f at_) s at_ = _
  rw [bind_ok.2 ⟨a, _, e1, e2⟩, List.length_append, Nat.add_assoc]
theorem enc_bind {p : Rdr α} {f : α → Rdr β} {a : α} {v : β} {b1 b2 : List UInt8} (h1 : Enc p a b1) (h2 : Enc (f a) v b2) : Enc (rBind p f) v (b1 ++ b2) := enc_at (f := fun _ => f) h1 fun _ => h2
/-- The last of a row of readings hands on what was read. -/
theorem enc_map {p : Rdr α} {f : α → β} {a : α} {b : List UInt8} (h : Enc p a b) : Enc (rBind p fun x => rPure (f x)) (f a) b := by
  have := enc_bind (f := fun x => rPure (f x)) h (enc_pure (f a))
  rwa [List.append_nil] at this
theorem enc_rep {p : Rdr α} {g : α → α} {enc : α → List UInt8} : ∀ l : List α, (∀ x ∈ l, Enc p (g x) (enc x)) → Enc (pRep p l.length) (l.map g) (l.flatMap enc)
  | [], _ => enc_pure []
  | x :: l, h => by
    rw [List.flatMap_cons]
    exact enc_bind (h x (List.mem_cons_self ..)) (enc_map (enc_rep l fun y hy => h y (List.mem_cons_of_mem _ hy)))
end
theorem enc_num {lo hi : Int} {n : Nat} (h1 : lo ≤ (n : Int)) (h2 : (n : Int) ≤ hi) (h3 : n ≤ 9223372036854775807) : Enc (pNum lo hi) n (numL n) := fun s at_ rest hd => by
  unfold pNum
  rw [rdN_numL s at_ lo hi 9 n 0 0 rest hd (numL_9 n (by omega)) (fun h => absurd h (by omega)) (by simpa using h1) (by simpa using h2)]
  simp
theorem enc_text {most : Int} {t : ByteArray} (h1 : (t.size : Int) ≤ most) (h2 : t.size ≤ 140737488351232) : Enc (pText most) t (encT t) := fun s at_ rest hd => by
  unfold encT at hd ⊢
  rw [List.append_assoc] at hd
  unfold pText
  rw [rdN_numL s at_ 0 most 9 t.size 0 0 _ hd (numL_9 t.size (by omega)) (fun h => absurd h (by omega)) (by simp) (by simpa using h1)]
  simp only [Nat.zero_add, Nat.pow_zero, Nat.mul_one]
  have hl : s.data.toList.drop (at_ + (numL t.size).length) = t.data.toList ++ rest := by rw [← List.drop_drop, hd, List.drop_left]
  have hts : t.data.toList.length = t.size := by simp
  have hlen : at_ + (numL t.size).length + t.size ≤ s.size := by
    have h1 := congrArg List.length hd
    rw [List.length_drop, List.length_append, List.length_append, hts] at h1
    have h2 : s.data.toList.length = s.size := by simp
    have h3 := numL_pos t.size
    omega
  rw [if_neg (by omega)]
  have : s.extract (at_ + (numL t.size).length) (at_ + (numL t.size).length + t.size) = t := by
    apply ba_ext
    rw [extract_list, hl, Nat.add_sub_cancel_left, ← hts, List.take_left]
  rw [this, List.length_append, hts, Nat.add_assoc]
theorem enc_many {α : Type} {p : Rdr α} {g : α → α} {enc : α → List UInt8} {lo hi : Int} {l : List α} (h1 : lo ≤ (l.length : Int)) (h2 : (l.length : Int) ≤ hi) (h3 : l.length ≤ 9223372036854775807) (h : ∀ x ∈ l, Enc p (g x) (enc x)) : Enc (pMany lo hi p) (l.map g) (encL enc l) :=
  enc_bind (enc_num h1 h2 h3) (enc_rep l h)
theorem enc_many' {α : Type} {p : Rdr α} {enc : α → List UInt8} {lo hi : Int} {l : List α} (h1 : lo ≤ (l.length : Int)) (h2 : (l.length : Int) ≤ hi) (h3 : l.length ≤ 9223372036854775807) (h : ∀ x ∈ l, Enc p x (enc x)) : Enc (pMany lo hi p) l (encL enc l) := by
  have := enc_many (g := id) h1 h2 h3 h
  rwa [List.map_id] at this
/-! ### What may be has parts within bounds -/
theorem word_size {s : ByteArray} (h : wordE s = true) : s.size ≤ 64 := by
  unfold wordE at h
  simp only [Bool.and_eq_true, decide_eq_true_eq] at h
  exact h.1.2
theorem evr_size {ep : Int} {v r : ByteArray} {b : Bool} (h : evrE ep v r b = true) : 0 ≤ ep ∧ ep ≤ 2147483647 ∧ v.size ≤ 64 ∧ r.size ≤ 64 := by
  unfold evrE at h
  simp only [Bool.and_eq_true, Bool.or_eq_true, decide_eq_true_eq] at h
  obtain ⟨⟨⟨h1, h2⟩, h3⟩, h4⟩ := h
  refine ⟨h1, h2, word_size h3, ?_⟩
  rcases h4 with h4 | ⟨_, h4⟩
  · exact word_size h4
  · omega
theorem name_size {s : ByteArray} (h : nameE s = true) : s.size ≤ 64 := by
  unfold nameE at h
  simp only [Bool.and_eq_true, decide_eq_true_eq] at h
  exact h.1.2
theorem file_name {s : ByteArray} (h : fileE s = true) : nameE s = true := by
  unfold fileE at h
  rw [Bool.and_eq_true] at h
  exact h.1
theorem op_size {op : Int} (h : mayOp op = true) : 0 ≤ op ∧ op ≤ 6 := by
  unfold mayOp at h
  simp only [Bool.or_eq_true, beq_iff_eq] at h
  omega
theorem bytes_emp {s : ByteArray} (h : s.toList.isEmpty = true) : s = emp := by
  rw [ByteArray.toList_eq] at h
  rcases s with ⟨⟨l⟩⟩
  simp only [List.isEmpty_iff] at h
  rw [h]
theorem zero_evr {d : DepD} (h : d.zero = true) : d.ep = 0 ∧ d.ver = emp ∧ d.rel = emp := by
  unfold DepD.zero at h
  simp only [Bool.and_eq_true, decide_eq_true_eq] at h
  exact ⟨h.1, bytes_emp h.2.1, bytes_emp h.2.2⟩
theorem none_dep {d : DepD} (h : d.none = true) : d = noDep := by
  unfold DepD.none at h
  simp only [Bool.and_eq_true, beq_iff_eq] at h
  obtain ⟨h1, h2, h3⟩ := h
  obtain ⟨h4, h5, h6⟩ := zero_evr h3
  rcases d with ⟨n, o, e, v, r⟩
  simp only at h1 h2 h4 h5 h6
  rw [bytes_emp h1, h2, h4, h5, h6]
theorem to_nat {i : Int} (h : 0 ≤ i) : ((i.toNat : Nat) : Int) = i := Int.toNat_of_nonneg h
theorem enc_evr {ep : Int} {v r : ByteArray} {b : Bool} (h : evrE ep v r b = true) : Enc pEVR (ep, v, r) (encV ep v r) := by
  obtain ⟨h1, h2, h3, h4⟩ := evr_size h
  have e := enc_bind (f := fun n : Nat => rBind (pText 64) fun v => rBind (pText 64) fun r => rPure ((n : Int), v, r)) (enc_num (lo := 0) (hi := 2147483647) (n := ep.toNat) (by omega) (by omega) (by omega)) (enc_bind (enc_text (most := 64) (t := v) (by omega) (by omega)) (enc_map (enc_text (most := 64) (t := r) (by omega) (by omega))))
  rw [to_nat h1] at e
  exact e
theorem enc_dep {d : DepD} (h : depE d = true) : Enc pDep d (encD d) := by
  unfold depE at h
  simp only [Bool.and_eq_true] at h
  obtain ⟨h1, h2, h3⟩ := h
  obtain ⟨h4, h5⟩ := op_size h2
  have hn := name_size h1
  unfold encD
  refine enc_bind (enc_text (by omega) (by omega)) (enc_bind (a := d.op.toNat) (enc_num (by omega) (by omega) (by omega)) ?_)
  by_cases h0 : d.op = 0
  · rw [if_pos h0, if_pos (by omega)]
    rw [if_pos h0] at h3
    obtain ⟨e1, e2, e3⟩ := zero_evr h3
    have : (⟨d.name, 0, 0, emp, emp⟩ : DepD) = d := by
      rcases d with ⟨n, o, e, v, r⟩
      simp only at h0 e1 e2 e3
      rw [h0, e1, e2, e3]
    rw [this]
    exact enc_pure d
  · rw [if_neg h0, if_neg (by omega)]
    rw [if_neg h0, Bool.and_eq_true] at h3
    have e := enc_map (f := fun e : Int × ByteArray × ByteArray => (⟨d.name, ((d.op.toNat : Nat) : Int), e.1, e.2.1, e.2.2⟩ : DepD)) (enc_evr h3.2)
    simp only [to_nat h4] at e ⊢
    exact e
/-! ### Rich dependencies -/
/-- The same, nothing behind its Args. -/
def norm : RichD → RichD
  | .nil => .nil
  | .node k d n f => .node k d n fun j => if j < n then norm (f j) else .nil
theorem norm_ofL {k : Int} {n : Nat} {f : Nat → RichD} : ofL k ((argL (.node k noDep n f)).map norm) = norm (.node k noDep n f) := by
  unfold ofL
  have hl : ((argL (.node k noDep n f)).map norm).length = n := by rw [List.length_map, argL_len]; rfl
  rw [hl]
  show _ = RichD.node k noDep n fun j => if j < n then norm (f j) else .nil
  congr 1
  funext j
  by_cases hj : j < n
  · rw [if_pos hj, List.getD_eq_getElem?_getD]
    simp [argL, RichD.n, RichD.args, hj]
  · rw [if_neg hj, List.getD_eq_getElem?_getD, List.getElem?_eq_none (by omega)]
    rfl
theorem cat_flat {α β : Type} (f : Nat → α) (g : α → List β) : ∀ n, ((List.range n).map f).flatMap g = catN (fun j => g (f j)) n
  | 0 => rfl
  | n + 1 => by rw [List.range_succ, List.map_append, List.flatMap_append, cat_flat f g n]; simp [catN]
theorem maxN_at {f : Nat → Nat} {n j : Nat} (hj : j < n) : f j ≤ maxN f n := by
  induction n with
  | zero => omega
  | succ n ih =>
    simp only [maxN]
    by_cases e : j = n
    · rw [e]; omega
    · have := ih (by omega); omega
theorem okE_two {wh k : Int} {n : Nat} {al : Bool} (h : okE wh k n al = true) : 2 ≤ n ∧ 2 ≤ k ∧ k ≤ 7 := by
  unfold okE at h
  split at h
  · simp only [decide_eq_true_eq] at h; omega
  · split at h
    · simp only [decide_eq_true_eq] at h; omega
    · split at h
      · simp only [Bool.and_eq_true, Bool.or_eq_true, decide_eq_true_eq] at h; omega
      · split at h
        · simp only [Bool.and_eq_true, Bool.or_eq_true, decide_eq_true_eq] at h; omega
        · cases h
theorem enc_rich {wh : Int} : (r : RichD) → ∀ (al : Bool) (m : Nat), fitsE wh r al = true → r.depth ≤ m → r.count ≤ 24 → Enc (pRich m) (norm r) (encR r)
  | .nil, al, m, h, _, _ => by cases h
  | .node k d n f, al, m, h, hd, hc => by
    have ih := fun j (hj : j < n) => enc_rich (wh := wh) (f j)
    replace h : (if k = 1 then decide (n = 0) && depE d else (okE wh k n al && d.none) && allN (fun j => fitsE wh (f j) (aloneE k al)) n) = true := h
    replace hd : (if k = 1 then 0 else maxN (fun j => (f j).depth) n + 1) ≤ m := hd
    have hn : n < (RichD.node k d n f).count := n_lt (.node k d n f)
    show Enc (pRich m) (norm (.node k d n f)) (numL k.toNat ++ if k = 1 then encD d else numL n ++ catN (fun j => encR (f j)) n)
    by_cases hk : k = 1
    · rw [if_pos hk, Bool.and_eq_true, decide_eq_true_eq] at h
      obtain ⟨h0, hdep⟩ := h
      subst hk h0
      have hv : norm (.node 1 d 0 f) = atomD d := by
        show RichD.node 1 d 0 _ = RichD.node 1 d 0 _
        congr 1
      rw [if_pos rfl, hv]
      have e1 : Enc (pNum 1 7) 1 (numL (1 : Int).toNat) := enc_num (by omega) (by omega) (by omega)
      have e2 := enc_map (f := atomD) (enc_dep hdep)
      cases m with
      | zero => exact enc_at e1 fun at_ => by rw [if_pos rfl]; exact e2
      | succ m => exact enc_at e1 fun at_ => by rw [if_pos rfl]; exact e2
    · rw [if_neg hk, Bool.and_eq_true, Bool.and_eq_true] at h
      obtain ⟨⟨h1, h2⟩, h3⟩ := h
      obtain ⟨k1, k2, k3⟩ := okE_two h1
      rw [if_neg hk] at hd
      obtain rfl := none_dep h2
      rw [if_neg hk]
      have hk0 : ¬ k.toNat = 1 := by omega
      have e1 : Enc (pNum 1 7) k.toNat (numL k.toNat) := enc_num (by omega) (by omega) (by omega)
      cases m with
      | zero => omega
      | succ m =>
        have e2 : Enc (pMany 2 24 (pRich m)) ((argL (.node k noDep n f)).map norm) (encL encR (argL (.node k noDep n f))) := by
          have hl : (argL (.node k noDep n f)).length = n := by rw [argL_len]; rfl
          refine enc_many (by omega) (by omega) (by omega) fun x hx => ?_
          obtain ⟨j, hj, rfl⟩ := List.mem_map.1 hx
          have hj' : j < n := by simpa [RichD.n] using hj
          have hmx : (f j).depth ≤ maxN (fun j => (f j).depth) n := maxN_at (f := fun j => (f j).depth) hj'
          have hac := arg_count (r := .node k noDep n f) (j := j) hj'
          simp only [RichD.args] at hac ⊢
          exact ih j hj' _ _ (allN_iff n |>.1 h3 j hj') (by omega) (by omega)
        have e3 : encL encR (argL (.node k noDep n f)) = encRs (.node k noDep n f) := by
          unfold encL encRs
          rw [argL_len]
          exact congrArg _ (cat_flat _ _ _)
        have e4 := enc_map (f := fun l => ofL ((k.toNat : Nat) : Int) l) e2
        rw [e3] at e4
        simp only [to_nat (show 0 ≤ k by omega), norm_ofL] at e4
        refine enc_at e1 fun at_ => ?_
        simp only [if_neg hk0, to_nat (show 0 ≤ k by omega)]
        exact e4
theorem may_fits {r : RichD} {wh : Int} (h : mayE r wh = 0) : fitsE wh r false = true ∧ r.depth ≤ 8 ∧ r.count ≤ 24 := by
  obtain ⟨h1, h2, h3, h4, h5⟩ := mayE_ok.1 h
  exact ⟨by rw [fits_parts h1 h2 r false h3]; exact h5, h4, h3⟩
def normL (r : RichD) : RichD := ofL 0 ((argL r).map norm)
theorem normL_n (r : RichD) : (normL r).n = r.n := by
  show ((argL r).map norm).length = r.n
  rw [List.length_map, argL_len]
theorem normL_at {r : RichD} {j : Nat} (hj : j < r.n) : (normL r).args j = norm (r.args j) := by
  show ((argL r).map norm).getD j .nil = _
  rw [List.getD_eq_getElem?_getD]
  simp [argL, hj]
theorem riches_n {wh : Int} {r : RichD} (h : richesE wh r = true) : r.n ≤ 32 ∧ ∀ j, j < r.n → mayE (r.args j) wh = 0 := by
  unfold richesE at h
  rw [Bool.and_eq_true, decide_eq_true_eq, allN_iff] at h
  exact ⟨h.1, fun j hj => of_decide_eq_true (h.2 j hj)⟩
theorem enc_riches {wh : Int} {r : RichD} (h : richesE wh r = true) : Enc pRiches (normL r) (encRs r) := by
  obtain ⟨h1, h2⟩ := riches_n h
  have hl := argL_len r
  have e1 : Enc (pMany 0 32 (pRich 8)) ((argL r).map norm) (encL encR (argL r)) := by
    refine enc_many (by omega) (by omega) (by omega) fun x hx => ?_
    obtain ⟨j, hj, rfl⟩ := List.mem_map.1 hx
    obtain ⟨k1, k2, k3⟩ := may_fits (h2 j (by simpa using hj))
    exact enc_rich _ _ _ k1 k2 k3
  have e3 : encL encR (argL r) = encRs r := by
    unfold encL encRs
    rw [argL_len]
    exact congrArg _ (cat_flat _ _ _)
  rw [e3] at e1
  exact enc_map (f := fun l => ofL 0 l) e1
theorem same_norm : (r : RichD) → sameE (norm r) r = true
  | .nil => same_refl .nil
  | .node k d n f => by
    rw [same_iff]
    refine ⟨rfl, rfl, rfl, fun j hj => ?_⟩
    have hj' : j < n := hj
    show sameE (if j < n then norm (f j) else .nil) (f j) = true
    rw [if_pos hj']
    exact same_norm (f j)
/-! ### Packages, data -/
def normP (p : PkgD) : PkgD := ⟨p.name, p.ep, p.ver, p.rel, p.arch, p.vendor, p.prov, normL p.req, normL p.con, p.obs, normL p.reco, normL p.sup, normL p.sug, normL p.enh, p.files⟩
structure MayP (p : PkgD) : Prop where
  name : nameE p.name = true
  evr : evrE p.ep p.ver p.rel false = true
  arch : 1 ≤ p.arch ∧ p.arch ≤ 4
  vendor : p.vendor.size ≤ 64
  prov : p.prov.length ≤ 32 ∧ ∀ d ∈ p.prov, depE d = true
  obs : p.obs.length ≤ 32 ∧ ∀ d ∈ p.obs, depE d = true
  files : p.files.length ≤ 32 ∧ ∀ d ∈ p.files, fileE d = true
  req : richesE 1 p.req = true
  con : richesE 2 p.con = true
  reco : richesE 1 p.reco = true
  sup : richesE 3 p.sup = true
  sug : richesE 1 p.sug = true
  enh : richesE 3 p.enh = true
theorem mayP_is {p : PkgD} (h : mayP p = true) : MayP p := by
  unfold mayP archE depsE filesE at h
  simp only [Bool.and_eq_true, decide_eq_true_eq, List.all_eq_true] at h
  obtain ⟨⟨h1, h2, h3⟩, ⟨⟨h4, h5⟩, h6⟩, ⟨h7, h8, h9⟩, h10, h11, h12, h13, h14, h15, h16⟩ := h
  exact ⟨h1, h3, ⟨h4, h5⟩, h6, h7, h8, h9, h11, h12, h13, h14, h15, h16⟩
theorem enc_body {p : PkgD} (h : MayP p) : Enc pBody (normP p) (encPk p) := by
  obtain ⟨h1, h2, ⟨h3, h4⟩, h5, ⟨h6, h7⟩, ⟨h8, h9⟩, ⟨h10, h11⟩, h12, h13, h14, h15, h16, h17⟩ := h
  have hn := name_size h1
  have ea : Enc (pNum 1 4) p.arch.toNat (numL p.arch.toNat) := enc_num (by omega) (by omega) (by omega)
  unfold encPk
  refine enc_bind (enc_text (by omega) (by omega)) (enc_bind (enc_evr h2) (enc_bind ea (enc_bind (enc_text (by omega) (by omega)) ?_)))
  refine enc_bind (p := pDeps) (enc_many' (by omega) (by omega) (by omega) fun d hd => enc_dep (h7 d hd)) (enc_bind (enc_riches h12) (enc_bind (enc_riches h13) ?_))
  refine enc_bind (p := pDeps) (enc_many' (by omega) (by omega) (by omega) fun d hd => enc_dep (h9 d hd)) (enc_bind (enc_riches h14) (enc_bind (enc_riches h15) (enc_bind (enc_riches h16) (enc_bind (enc_riches h17) ?_))))
  have e := enc_map (p := pFiles) (f := fun files => (⟨p.name, p.ep, p.ver, p.rel, ((p.arch.toNat : Nat) : Int), p.vendor, p.prov, normL p.req, normL p.con, p.obs, normL p.reco, normL p.sup, normL p.sug, normL p.enh, files⟩ : PkgD))
    (enc_many' (p := pText 64) (enc := encT) (lo := 0) (hi := 32) (l := p.files) (by omega) (by omega) (by omega) fun d hd => enc_text (by have := name_size (file_name (h11 d hd)); omega) (by have := name_size (file_name (h11 d hd)); omega))
  simp only [to_nat (show 0 ≤ p.arch by omega)] at e ⊢
  exact e
end Go.Proofs.YtdpjjnbelgaagaaGreatDoor

namespace Go.Proofs.YtdpjjnbelgaagaaGreatDoor
open Go.ChangeShapes Go.WideShapes Go.ChangeAt Go.RowKit
set_option maxRecDepth 100000

theorem allN_congr {p q : Nat → Bool} : ∀ n, (∀ j, j < n → p j = q j) → allN p n = allN q n
  | 0, _ => rfl
  | n + 1, h => by
    simp only [allN]
    rw [allN_congr n (fun j hj => h j (by omega)), h n (by omega)]
theorem riches_norm (wh : Int) (r : RichD) : richesE wh (normL r) = richesE wh r := by
  unfold richesE
  rw [normL_n, allN_congr r.n fun j hj => by rw [normL_at hj, same_may (same_norm _) wh]]
theorem mayP_norm (p : PkgD) : mayP (normP p) = mayP p := by
  unfold mayP
  rw [show (normP p).req = normL p.req from rfl, show (normP p).con = normL p.con from rfl, show (normP p).reco = normL p.reco from rfl, show (normP p).sup = normL p.sup from rfl, show (normP p).sug = normL p.sug from rfl, show (normP p).enh = normL p.enh from rfl, riches_norm, riches_norm, riches_norm, riches_norm, riches_norm, riches_norm]
  rfl
theorem enc_pkg {p : PkgD} (h : mayP p = true) : Enc pPkg (normP p) (encPk p) := by
  have e := enc_at (p := pBody) (f := fun at_ p => if mayP p = true then rPure p else rFail at_ 4) (v := normP p) (b2 := []) (enc_body (mayP_is h)) fun at_ => by
    simp only [mayP_norm, if_pos h]
    exact enc_pure _
  rw [List.append_nil] at e
  exact e
theorem enc_pkgs {left : Nat} {l : List PkgD} (h : l.all mayP = true) (hl : l.length ≤ left) (h3 : l.length ≤ 9223372036854775807) : Enc (pPkgs left) (l.map normP) (encL encPk l) :=
  enc_many (by omega) (by omega) h3 fun p hp => enc_pkg (List.all_eq_true.1 h p hp)
def normO (r : RepoD) : RepoD := ⟨r.prio, r.pkgs.map normP⟩
def normA (d : DataD) : DataD := ⟨d.repos.map normO, d.inst.map normP⟩
def sumP (l : List RepoD) : Nat := (l.map fun r => r.pkgs.length).sum
theorem enc_repo {left : Nat} {r : RepoD} (h0 : 0 ≤ r.prio) (h1 : r.prio ≤ 1024) (h : r.pkgs.all mayP = true) (hl : r.pkgs.length ≤ left) (h3 : left ≤ 256) : Enc (pRepo left) (normO r) (encO r) := by
  unfold encO
  refine enc_bind (a := r.prio.toNat) (enc_num (by omega) (by omega) (by omega)) ?_
  have e := enc_map (f := fun l => (⟨((r.prio.toNat : Nat) : Int), l⟩ : RepoD)) (enc_pkgs (left := left) h hl (by omega))
  simp only [to_nat h0] at e ⊢
  exact e
theorem enc_repos : ∀ (l : List RepoD) (left : Nat), l.all (fun r => decide (0 ≤ r.prio) && decide (r.prio ≤ 1024)) = true → l.all (fun r => r.pkgs.all mayP) = true → sumP l ≤ left → left ≤ 256 →
    Enc (pRepos l.length left) (l.map normO, left - sumP l) (l.flatMap encO)
  | [], left, _, _, _, _ => enc_pure _
  | r :: l, left, h1, h2, h3, h4 => by
    rw [List.all_cons, Bool.and_eq_true] at h1 h2
    have h5 := h1.1
    simp only [Bool.and_eq_true, decide_eq_true_eq] at h5
    have hs : sumP (r :: l) = r.pkgs.length + sumP l := by simp [sumP]
    have e2 := enc_repos l (left - r.pkgs.length) h1.2 h2.2 (by omega) (by omega)
    have hn : (normO r).pkgs.length = r.pkgs.length := by simp [normO]
    have e := enc_map (f := fun y : List RepoD × Nat => (normO r :: y.1, y.2)) e2
    rw [List.flatMap_cons]
    refine enc_bind (enc_repo h5.1 h5.2 h2.1 (by omega) h4) ?_
    rw [hn]
    rw [hs, show left - (r.pkgs.length + sumP l) = left - r.pkgs.length - sumP l from by omega]
    exact e
theorem check_ok {d : DataD} : checkE d = 0 ↔ d.repos.length ≤ 16 ∧ d.total ≤ 256 ∧ d.repos.all (fun r => decide (0 ≤ r.prio) && decide (r.prio ≤ 1024)) = true ∧ d.repos.all (fun r => r.pkgs.all mayP) = true ∧ d.inst.all mayP = true := by
  unfold checkE
  by_cases h1 : 16 < d.repos.length ∨ 256 < d.total
  · rw [if_pos h1]
    exact ⟨fun h => (by cases h), fun h => (by omega)⟩
  · rw [if_neg h1]
    by_cases h2 : d.repos.all (fun r => decide (0 ≤ r.prio) && decide (r.prio ≤ 1024)) = false
    · rw [if_pos h2]
      exact ⟨fun h => (by cases h), fun h => (by rw [h2] at h; cases h.2.2.1)⟩
    · rw [if_neg h2]
      by_cases h3 : (d.repos.all (fun r => r.pkgs.all mayP) && d.inst.all mayP) = false
      · rw [if_pos h3]
        exact ⟨fun h => (by cases h), fun h => (by rw [h.2.2.2.1, h.2.2.2.2] at h3; cases h3)⟩
      · rw [if_neg h3]
        rw [Bool.not_eq_false] at h2 h3
        rw [Bool.and_eq_true] at h3
        exact ⟨fun _ => ⟨by omega, by omega, h2, h3.1, h3.2⟩, fun _ => rfl⟩
theorem total_eq (d : DataD) : d.total = sumP d.repos + d.inst.length := rfl
theorem enc_data {d : DataD} (h : checkE d = 0) : Enc pData (normA d) (encA d) := by
  obtain ⟨h1, h2, h3, h4, h5⟩ := check_ok.1 h
  rw [total_eq] at h2
  unfold encA encL
  rw [List.append_assoc]
  refine enc_bind (enc_num (by omega) (by omega) (by omega)) (enc_bind (enc_repos d.repos 256 h3 h4 (by omega) (by omega)) ?_)
  exact enc_map (f := fun i => (⟨d.repos.map normO, i⟩ : DataD)) (enc_pkgs h5 (by simp only; omega) (by omega))
theorem list_size (l : List UInt8) : (⟨l.toArray⟩ : ByteArray).size = l.length := rfl
/-- What was written is read. -/
theorem dec_enc {d : DataD} (h : checkE d = 0) (hl : (encA d).length ≤ 4194304) : decE ⟨(encA d).toArray⟩ = .ok (normA d) := by
  unfold decE
  have e := enc_data h ⟨(encA d).toArray⟩ 0 [] (by simp)
  rw [if_neg (by rw [list_size]; omega), e]
  simp only
  rw [if_neg (by rw [list_size]; omega)]
/-- What is wrong is so at a place within the bytes, or at their end. -/
theorem dec_place {s : ByteArray} {p : Nat} {x : Int} (hs : s.size ≤ 4194304) (h : decE s = .error (p, x)) : p ≤ s.size ∧ x ≠ 0 := by
  unfold decE at h
  rw [if_neg (by omega)] at h
  cases hr : pData s 0 with
  | ok y =>
    obtain ⟨d, q⟩ := y
    rw [hr] at h
    simp only at h
    split at h
    · injection h with h
      injection h with e1 e2
      subst e1 e2
      exact ⟨by omega, by decide⟩
    · cases h
  | error y =>
    rw [hr] at h
    injection h with h
    subst h
    exact (good_data 0).bad s 0 p x (Nat.le_refl _) (Nat.zero_le _) hr
/-! ### What is read, written anew -/
section
variable {α β : Type}
/-- Of what is read F tells, and of the bytes that were gone over. -/
def Dec (P : Rdr α) (F : α → List UInt8 → Prop) : Prop := ∀ (s : ByteArray) (at_ : Nat) (v : α) (q : Nat), at_ ≤ s.size → P s at_ = .ok (v, q) → ∃ b, F v b ∧ q = at_ + b.length ∧ q ≤ s.size ∧ s.data.toList.drop at_ = b ++ s.data.toList.drop q
theorem Dec.mono {P : Rdr α} {F G : α → List UInt8 → Prop} (h : Dec P F) (hf : ∀ v b, F v b → G v b) : Dec P G := fun s at_ v q h1 h2 => by
  obtain ⟨b, h3, h4⟩ := h s at_ v q h1 h2
  exact ⟨b, hf v b h3, h4⟩
end
end Go.Proofs.YtdpjjnbelgaagaaGreatDoor

namespace Go.Proofs.YtdpjjnbelgaagaaGreatDoor
open Go.ChangeShapes Go.WideShapes Go.ChangeAt Go.RowKit
set_option maxRecDepth 100000

/-- What was read, from a place and an error on: it, the place behind, what is wrong then. -/
def Res {α : Type} (P : Rdr α) (s : ByteArray) (at_ : Nat) (e : Int) (x : α) (at2 : Nat) (e2 : Int) : Prop :=
  (e ≠ 0 ∧ at2 = at_ ∧ e2 = e) ∨ (e = 0 ∧ ((P s at_ = .ok (x, at2) ∧ e2 = 0) ∨ (P s at_ = .error (at2, e2) ∧ e2 ≠ 0)))
section
variable {α β : Type} {s : ByteArray} {at_ at1 at2 : Nat} {e e1 e2 : Int}
theorem Res.bad {P : Rdr α} {x y : α} (h : Res P s at_ e x at2 e2) (h2 : e2 ≠ 0) : Res P s at_ e y at2 e2 := by
  rcases h with h | ⟨h0, h | h⟩
  · exact .inl h
  · exact absurd h.2 h2
  · exact .inr ⟨h0, .inr h⟩
theorem res_at {p : Rdr α} {f : Nat → α → Rdr β} {a : α} {b : β} (h : Res p s at_ e a at1 e1) (k : Res (f at_ a) s at1 e1 b at2 e2) : Res (rBindAt p f) s at_ e b at2 e2 := by
  rcases h with ⟨h1, rfl, rfl⟩ | ⟨h0, ⟨h1, rfl⟩ | ⟨h1, h2⟩⟩
  · rcases k with k | ⟨k0, _⟩
    · exact .inl k
    · exact absurd k0 h1
  · rcases k with ⟨k0, _⟩ | ⟨_, ⟨k1, k2⟩ | ⟨k1, k2⟩⟩
    · exact absurd rfl k0
    · exact .inr ⟨h0, .inl ⟨bind_ok.2 ⟨a, at1, h1, k1⟩, k2⟩⟩
    · exact .inr ⟨h0, .inr ⟨bind_err.2 (.inr ⟨a, at1, h1, k1⟩), k2⟩⟩
  · rcases k with ⟨k0, rfl, rfl⟩ | ⟨k0, _⟩
    · exact .inr ⟨h0, .inr ⟨bind_err.2 (.inl h1), h2⟩⟩
    · exact absurd k0 h2
theorem res_bind {p : Rdr α} {f : α → Rdr β} {a : α} {b : β} (h : Res p s at_ e a at1 e1) (k : Res (f a) s at1 e1 b at2 e2) : Res (rBind p f) s at_ e b at2 e2 := res_at (f := fun _ => f) h k
theorem res_pure (a : α) : Res (rPure a) s at_ e a at_ e := by
  by_cases h : e = 0
  · subst h; exact .inr ⟨rfl, .inl ⟨rfl, rfl⟩⟩
  · exact .inl ⟨h, rfl, rfl⟩
theorem res_map {p : Rdr α} {f : α → β} {a : α} (h : Res p s at_ e a at1 e1) : Res (rBind p fun x => rPure (f x)) s at_ e (f a) at1 e1 := res_bind h (res_pure (f a))
end
theorem res_num {s : ByteArray} {at_ : Nat} {e lo hi : Int} (hat : at_ ≤ s.size) (hh : 0 ≤ hi) : ∃ n : Nat, (rNum s at_ e lo hi).1 = (n : Int) ∧ (n : Int) ≤ hi ∧ Res (pNum lo hi) s at_ e n (rNum s at_ e lo hi).2.1 (rNum s at_ e lo hi).2.2 ∧ (rNum s at_ e lo hi).2.1 ≤ s.size ∧ ((rNum s at_ e lo hi).2.2 = 0 → lo ≤ (n : Int)) ∧ ((rNum s at_ e lo hi).2.2 ≠ 0 → n = 0) := by
  unfold rNum
  by_cases he : e = 0
  · subst he
    rw [if_pos rfl]
    cases hr : rdN s at_ lo hi 9 0 0 with
    | inl y =>
      obtain ⟨n, k⟩ := y
      obtain ⟨a1, a2, a3, a4, a5, a6⟩ := rdN_in s at_ lo hi 9 0 0 n k rfl (by simp) hr
      refine ⟨n, rfl, a6, .inr ⟨rfl, .inl ⟨?_, rfl⟩⟩, a1, fun _ => a5, fun h => absurd rfl h⟩
      unfold pNum
      rw [hr]
    | inr y =>
      have hy : y ≠ 0 := by simpa using rdN_bad s at_ lo hi 9 0 0 y hr
      refine ⟨0, rfl, hh, .inr ⟨rfl, .inr ⟨?_, hy⟩⟩, hat, fun h => absurd h hy, fun _ => rfl⟩
      unfold pNum
      rw [hr]
  · rw [if_neg he]
    exact ⟨0, rfl, hh, .inl ⟨he, rfl, rfl⟩, hat, fun h => absurd h he, fun _ => rfl⟩
theorem res_text {s : ByteArray} {at_ : Nat} {e hi : Int} (hat : at_ ≤ s.size) (hh : 0 ≤ hi) : ((rText s at_ e hi).1.size : Int) ≤ hi ∧ Res (pText hi) s at_ e (rText s at_ e hi).1 (rText s at_ e hi).2.1 (rText s at_ e hi).2.2 ∧ (rText s at_ e hi).2.1 ≤ s.size := by
  unfold rText
  by_cases he : e = 0
  · subst he
    rw [if_pos rfl]
    cases hr : rdN s at_ 0 hi 9 0 0 with
    | inl y =>
      obtain ⟨n, k⟩ := y
      obtain ⟨a1, a2, a3, a4, a5, a6⟩ := rdN_in s at_ 0 hi 9 0 0 n k rfl (by simp) hr
      simp only
      by_cases hs : s.size < at_ + k + n
      · rw [if_pos hs]
        refine ⟨hh, .inr ⟨rfl, .inr ⟨?_, show (8 : Int) ≠ 0 by decide⟩⟩, a1⟩
        unfold pText
        rw [hr]
        simp only
        rw [if_pos hs]
      · rw [if_neg hs]
        refine ⟨?_, .inr ⟨rfl, .inl ⟨?_, rfl⟩⟩, by simp only; omega⟩
        · have : (s.extract (at_ + k) (at_ + k + n)).size = n := by rw [ByteArray.size_extract]; omega
          rw [this]
          exact a6
        · unfold pText
          rw [hr]
          simp only
          rw [if_neg hs]
    | inr y =>
      have hy : y ≠ 0 := by simpa using rdN_bad s at_ 0 hi 9 0 0 y hr
      refine ⟨hh, .inr ⟨rfl, .inr ⟨?_, hy⟩⟩, hat⟩
      unfold pText
      rw [hr]
  · rw [if_neg he]
    exact ⟨hh, .inl ⟨he, rfl, rfl⟩, hat⟩
/-- codec's reader at g, wire's reader at gr. -/
structure RSt (g gr : Nat) (s : ByteArray) (left : Int) (at_ : Nat) (e : Int) (w : World) : Prop where
  rb : Blk w g 85 #[.pointer (some ⟨gr, 0, none⟩), .int .i64 left]
  wr : Blk w gr 135 (RB s at_ e)
  hat : at_ ≤ s.size
  hs : s.size ≤ 4194304
abbrev RF (g gr : Nat) : Nat → Prop := fun k => k = g ∨ k = gr
section
variable {g gr : Nat} {s : ByteArray} {left : Int} {at_ : Nat} {e : Int} {w w' : World}
theorem RSt.below (h : RSt g gr s left at_ e w) (hb : Below w.heap.size w w') : RSt g gr s left at_ e w' := ⟨h.rb.below hb h.rb.lt, h.wr.below hb h.wr.lt, h.hat, h.hs⟩
theorem RSt.drewN (h : RSt g gr s left at_ e w) (n : Nat) : RSt g gr s left at_ e (w.drewN n) := ⟨h.rb.drewN n, h.wr.drewN n, h.hat, h.hs⟩
theorem RSt.far {b : Nat} {t : TypeId} {cs : Array Value} (h : RSt g gr s left at_ e w) (ht : Touch (RF g gr) w w') (hb : Blk w b t cs) (h1 : t ≠ 85) (h2 : t ≠ 135) : Blk w' b t cs :=
  hb.touch ht (by rintro (e | e); exact hb.ne_ h.rb h1 e; exact hb.ne_ h.wr h2 e)
theorem RSt.ne (h : RSt g gr s left at_ e w) : g ≠ gr := h.rb.ne_ h.wr (by decide)
/-- Behind a call of wire's reader. -/
theorem RSt.wire {at2 : Nat} {e2 : Int} (h : RSt g gr s left at_ e w) (hb : Blk w' gr 135 (RB s at2 e2)) (ht : Touch (· = gr) w w') (hat : at2 ≤ s.size) : RSt g gr s left at2 e2 w' ∧ Touch (RF g gr) w w' :=
  ⟨⟨h.rb.touch ht h.ne, hb, hat, h.hs⟩, ht.mono fun _ _ e => .inr e⟩
end
/-- What a method of the reader's leaves: V tells of what was read, and of its value in memory. -/
def RPost {α : Type} (g gr : Nat) (s : ByteArray) (left : Int) (at_ : Nat) (e : Int) (P : Rdr α) (V : α → Value → World → Prop) (w : World) (ret : Ending) (w' : World) : Prop :=
  ∃ x v at2 e2, ret = .returned v ∧ V x v w' ∧ RSt g gr s left at2 e2 w' ∧ Res P s at_ e x at2 e2 ∧ Touch (RF g gr) w w'
theorem crnum_any {g gr : Nat} {s : ByteArray} {left : Int} {at_ : Nat} {e : Int} {w : World} (lo hi : Int) (hh : 0 ≤ hi) (h : RSt g gr s left at_ e w) : Calls Tryz.prog 83 #[.pointer (some ⟨gr, 0, none⟩), .int .i64 lo, .int .i64 hi] w
    fun r w' => ∃ (n at2 : Nat) (e2 : Int), r = .returned (.int .i64 (n : Int)) ∧ (n : Int) ≤ hi ∧ RSt g gr s left at2 e2 w' ∧ Res (pNum lo hi) s at_ e n at2 e2 ∧ Touch (RF g gr) w w' ∧ (e2 = 0 → lo ≤ (n : Int)) ∧ (e2 ≠ 0 → n = 0) := by
  obtain ⟨n, h1, h2, h3, h4, h5, h6⟩ := res_num (s := s) (at_ := at_) (e := e) (lo := lo) (hi := hi) h.hat hh
  refine (rnum_any gr s at_ e lo hi w h.wr h.hat (by have := h.hs; omega)).mono fun r w' ⟨k1, k2, k3⟩ => ?_
  obtain ⟨k4, k5⟩ := h.wire k2 k3 h4
  exact ⟨n, _, _, by rw [k1, h1], h2, k4, h3, k5, h5, h6⟩
theorem crfine_any {g gr : Nat} {s : ByteArray} {left : Int} {at_ : Nat} {e : Int} {w : World} (h : RSt g gr s left at_ e w) : Calls Tryz.prog 84 #[.pointer (some ⟨g, 0, none⟩)] w fun r w' => r = .returned (.bool (decide (e = 0))) ∧ ∃ n, w' = w.drewN n := by
  have c0 : w.cell? ⟨g, 0, none⟩ = some (.pointer (some ⟨gr, 0, none⟩)) := h.rb.cell 0
  have HW := Lib.hid (wrong_any gr s at_ e w h.wr)
  clear h
  by_cases he : e = 0
  · subst he
    go_enter Tryz.func84, Tryz.ntmps84
    go_wp2_with (first
      | (go_at_call 45; (with_reducible refine HW.out.mono ?_); rintro r w1 ⟨rfl, n, rfl⟩)
      | fail)
    go_ret
    exact ⟨rfl, n, rfl⟩
  · have hd : (e == 0) = false := by simpa using he
    rw [decide_eq_false he]
    go_enter Tryz.func84, Tryz.ntmps84
    go_wp2_with (first
      | (go_at_call 45; (with_reducible refine HW.out.mono ?_); rintro r w1 ⟨rfl, n, rfl⟩)
      | fail)
    go_ret
    exact ⟨rfl, n, rfl⟩
theorem crname_any {g gr : Nat} {s : ByteArray} {left : Int} {at_ : Nat} {e : Int} {w : World} (h : RSt g gr s left at_ e w) : Calls Tryz.prog 133 #[.pointer (some ⟨g, 0, none⟩)] w (RPost g gr s left at_ e (pText 64) (fun x v _ => v = .string x ∧ x.size ≤ 64) w) := by
  have c0 : w.cell? ⟨g, 0, none⟩ = some (.pointer (some ⟨gr, 0, none⟩)) := h.rb.cell 0
  obtain ⟨h1, h2, h3⟩ := res_text (s := s) (at_ := at_) (e := e) (hi := 64) h.hat (by decide)
  have HT := Lib.hid (rtext_any gr s at_ e 64 w h.wr h.hat (by have := h.hs; omega))
  have HR := Lib.hid (show ∀ w', Blk w' gr 135 (RB s (rText s at_ e 64).2.1 (rText s at_ e 64).2.2) → Touch (· = gr) w w' → RPost g gr s left at_ e (pText 64) (fun x v _ => v = .string x ∧ x.size ≤ 64) w (.returned (.string (rText s at_ e 64).1)) w' from fun w' k2 k3 => by
    obtain ⟨k4, k5⟩ := h.wire k2 k3 h3
    exact ⟨_, _, _, _, rfl, ⟨rfl, by omega⟩, k4, h2, k5⟩)
  clear h h1 h2 h3
  go_enter Tryz.func133, Tryz.ntmps133
  go_wp2_with (first
    | (go_at_call 165; (with_reducible refine HT.out.mono ?_); rintro r w1 ⟨rfl, h1, h2⟩)
    | fail)
  go_ret
  exact HR.out w1 h1 h2
end Go.Proofs.YtdpjjnbelgaagaaGreatDoor

namespace Go.Proofs.YtdpjjnbelgaagaaGreatDoor
open Go.ChangeShapes Go.WideShapes Go.ChangeAt Go.RowKit
set_option maxRecDepth 100000

abbrev WT := List UInt8 × Int
/-- Bytes are written: all of them, or it is told that they do not fit; what did not fit first stays. -/
structure WrRel (st : WT) (b : List UInt8) (st' : WT) : Prop where
  fits : st.2 = 0 → st.1.length + b.length ≤ 4194304 → st' = (st.1 ++ b, 0)
  not : st.2 = 0 → 4194304 < st.1.length + b.length → st'.2 = 40
  bad : st.2 ≠ 0 → st'.2 = st.2
theorem WrRel.nil (st : WT) (h : st.1.length ≤ 4194304) : WrRel st [] st :=
  ⟨fun h1 _ => by rw [List.append_nil, ← h1], fun _ h2 => by simp at h2; omega, fun _ => rfl⟩
theorem WrRel.trans {st st1 st2 : WT} {b1 b2 : List UInt8} (h : WrRel st b1 st1) (k : WrRel st1 b2 st2) : WrRel st (b1 ++ b2) st2 := by
  refine ⟨fun h1 h2 => ?_, fun h1 h2 => ?_, fun h1 => ?_⟩
  · rw [List.length_append] at h2
    have e := h.fits h1 (by omega)
    subst e
    rw [k.fits rfl (by simp only [List.length_append]; omega), List.append_assoc]
  · rw [List.length_append] at h2
    by_cases h3 : st.1.length + b1.length ≤ 4194304
    · have e := h.fits h1 h3
      subst e
      exact k.not rfl (by simp only [List.length_append]; omega)
    · have e := h.not h1 (by omega)
      rw [k.bad (by rw [e]; decide), e]
  · have e := h.bad h1
    rw [k.bad (by rw [e]; exact h1), e]
def wr1 (st : WT) (x : List UInt8) : WT := (putB st.1 x, if st.2 = 0 then putE st.1 x else st.2)
theorem WrRel.one (st : WT) (x : List UInt8) : WrRel st x (wr1 st x) := by
  unfold wr1 putB putE
  refine ⟨fun h1 h2 => ?_, fun h1 h2 => ?_, fun h1 => ?_⟩
  · rw [if_pos h2, if_pos h1, if_pos h2]
  · simp only
    rw [if_pos h1, if_neg (by omega)]
  · simp only
    rw [if_neg h1]
/-- codec's writer at g, wire's writer at gw, the bytes in v: all from W0's end on. -/
structure WrSt (W0 : World) (g gw : Nat) (v : Value) (st : WT) (w : World) : Prop where
  bl : Below W0.heap.size W0 w
  wb : Blk w g 68 #[.pointer (some ⟨gw, 0, none⟩), .int .i64 st.2]
  isw : IsW w gw v st.1
  hg : W0.heap.size ≤ g
  hgw : W0.heap.size ≤ gw
  hv : ∀ k, v.ownBlock = some k → W0.heap.size ≤ k
structure CStep (g gw : Nat) (w : World) (v : Value) (w' : World) (v' : Value) : Prop where
  touch : Touch (fun k => k = g ∨ WF gw v k) w w'
  at_ : ∀ k, v'.ownBlock = some k → v.ownBlock = some k ∨ w.heap.size ≤ k
theorem CStep.refl (g gw : Nat) (w : World) (v : Value) : CStep g gw w v w v := ⟨Touch.refl _ _, fun _ h => .inl h⟩
theorem CStep.of_below {g gw : Nat} {w w' : World} {v : Value} (h : Below w.heap.size w w') : CStep g gw w v w' v := ⟨Touch.of_below h _, fun _ h => .inl h⟩
theorem CStep.of_w {g gw : Nat} {w w' : World} {v v' : Value} (h : WStep gw w v w' v') : CStep g gw w v w' v' := ⟨h.touch.mono fun _ _ h => .inr h, h.at_⟩
theorem CStep.trans {g gw : Nat} {a b c : World} {u v x : Value} (h : CStep g gw a u b v) (k : CStep g gw b v c x) : CStep g gw a u c x :=
  ⟨h.touch.trans k.touch fun j hj hf => by
    rcases hf with hf | hf | hf
    · exact .inl hf
    · exact .inr (.inl hf)
    · rcases h.at_ j hf with h1 | h1
      · exact .inr (.inr h1)
      · omega, fun j hj => by
    rcases k.at_ j hj with h1 | h1
    · exact h.at_ j h1
    · have := h.touch.size
      exact .inr (by omega)⟩
theorem WrSt.below {W0 : World} {g gw : Nat} {v : Value} {st : WT} {w w' : World} (h : WrSt W0 g gw v st w) (hb : Below w.heap.size w w') : WrSt W0 g gw v st w' :=
  ⟨h.bl.trans (hb.mono h.bl.size), h.wb.below hb h.wb.lt, h.isw.below hb, h.hg, h.hgw, h.hv⟩
/-- A block of another type stays. -/
theorem WrSt.far {W0 : World} {g gw : Nat} {v v' : Value} {st : WT} {w w' : World} {b : Nat} {t : TypeId} {cs : Array Value} (h : WrSt W0 g gw v st w) (hs : CStep g gw w v w' v') (hb : Blk w b t cs) (h1 : t ≠ 68) (h2 : t ≠ 108) (h3 : t ≠ 5) : Blk w' b t cs := by
  refine hb.touch hs.touch ?_
  rintro (e | e | e)
  · exact hb.ne_ h.wb h1 e
  · exact hb.ne_ h.isw.blk h2 e
  · exact h.isw.own.ne_blk hb (Ne.symm h3) e
theorem WrSt.step {W0 : World} {g gw : Nat} {v v' : Value} {st st' : WT} {w w' : World} (h : WrSt W0 g gw v st w) (hs : CStep g gw w v w' v') (hb : Blk w' g 68 #[.pointer (some ⟨gw, 0, none⟩), .int .i64 st'.2]) (hw : IsW w' gw v' st'.1) : WrSt W0 g gw v' st' w' := by
  have hz := h.bl.size
  refine ⟨h.bl.trans (hs.touch.below hz fun x hx hf => ?_), hb, hw, h.hg, h.hgw, fun k hk => ?_⟩
  · rcases hf with e | e | e
    · have := h.hg; omega
    · have := h.hgw; omega
    · have := h.hv x e; omega
  · rcases hs.at_ k hk with e | e
    · exact h.hv k e
    · omega
/-- What a method of the writer's leaves. -/
def WPost (W0 : World) (g gw : Nat) (v : Value) (st : WT) (b : List UInt8) (w : World) (e : Ending) (w' : World) : Prop :=
  e = .returned (.tuple #[]) ∧ ∃ v' st', WrSt W0 g gw v' st' w' ∧ WrRel st b st' ∧ CStep g gw w v w' v'
theorem keep_any (g gw : Nat) (e0 e : Int) (w : World) (hb : Blk w g 68 #[.pointer (some ⟨gw, 0, none⟩), .int .i64 e0]) : Calls Tryz.prog 110 #[.pointer (some ⟨g, 0, none⟩), .int .i64 e] w fun r w' => r = .returned (.tuple #[]) ∧ Blk w' g 68 #[.pointer (some ⟨gw, 0, none⟩), .int .i64 (if e0 = 0 then e else e0)] ∧ Touch (· = g) w w' := by
  have c1 : w.cell? ⟨g, 1, none⟩ = some (.int .i64 e0) := hb.cell 1
  have f1 := hb.frozen 1
  have HB := Lib.hid hb
  clear hb
  by_cases h : e0 = 0
  · subst h
    go_enter Tryz.func110, Tryz.ntmps110
    go_wp2_with fail
    go_end0
    exact ⟨rfl, HB.out.set_ 1 _, Touch.setCell (F := fun x => x = g) (Touch.refl _ _) (p := ⟨g, 1, none⟩) (fun _ => rfl) _⟩
  · have h2 : (e0 == 0) = false := by simpa using h
    go_enter Tryz.func110, Tryz.ntmps110
    go_wp2_with fail
    go_end0
    exact ⟨rfl, HB.out, Touch.refl _ _⟩
theorem WrSt.one {W0 : World} {g gw : Nat} {v v' : Value} {st : WT} {x : List UInt8} {w w1 w2 : World} (h : WrSt W0 g gw v st w) (h1 : IsW w1 gw v' (putB st.1 x)) (h2 : WStep gw w v w1 v')
    (h3 : Blk w2 g 68 #[.pointer (some ⟨gw, 0, none⟩), .int .i64 (if st.2 = 0 then putE st.1 x else st.2)]) (h4 : Touch (· = g) w1 w2) : ∃ v' st', WrSt W0 g gw v' st' w2 ∧ WrRel st x st' ∧ CStep g gw w v w2 v' := by
  have hb1 : Blk w1 g 68 #[.pointer (some ⟨gw, 0, none⟩), .int .i64 st.2] := h.wb.touch h2.touch (by
    rintro (e | e)
    · exact h.wb.ne_ h.isw.blk (by decide) e
    · exact h.isw.own.ne_blk h.wb (by decide) e)
  have hs : CStep g gw w v w2 v' := (CStep.of_w h2).trans ⟨h4.mono fun _ _ e => .inl e, fun _ e => .inl e⟩
  have hw2 : IsW w2 gw v' (putB st.1 x) := h1.touch h4 (fun e => hb1.ne_ h1.blk (by decide) e.symm) (fun k hk e => h1.own.ne_blk hb1 (by decide) (e ▸ hk))
  exact ⟨v', wr1 st x, h.step (st' := wr1 st x) hs h3 hw2, WrRel.one st x, hs⟩
theorem cwnum_any (W0 : World) (g gw : Nat) (v : Value) (st : WT) (n : Nat) (w : World) (hn : n ≤ 9223372036854775807) (h : WrSt W0 g gw v st w) :
    Calls Tryz.prog 61 #[.pointer (some ⟨g, 0, none⟩), .int .i64 n] w (WPost W0 g gw v st (numL n) w) := by
  have c0 : w.cell? ⟨g, 0, none⟩ = some (.pointer (some ⟨gw, 0, none⟩)) := h.wb.cell 0
  have HH := Lib.hid h
  have HN := Lib.hid (num_any gw v st.1 n w hn h.isw)
  clear h
  go_enter Tryz.func61, Tryz.ntmps61
  go_wp2_with fail
  refine HN.out.mono ?_
  rintro e w1 ⟨rfl, v', h1, h2⟩
  have hb1 : Blk w1 g 68 #[.pointer (some ⟨gw, 0, none⟩), .int .i64 st.2] := HH.out.wb.touch h2.touch (by
    rintro (e | e)
    · exact HH.out.wb.ne_ HH.out.isw.blk (by decide) e
    · exact HH.out.isw.own.ne_blk HH.out.wb (by decide) e)
  have HK := Lib.hid (keep_any g gw st.2 (putE st.1 (numL n)) w1 hb1)
  clear hb1
  go_wp2_with fail
  refine HK.out.mono ?_
  rintro e w2 ⟨rfl, h3, h4⟩
  go_wp2_with fail
  go_end0
  exact ⟨rfl, HH.out.one h1 h2 h3 h4⟩
theorem cwtext_any (W0 : World) (g gw : Nat) (v : Value) (st : WT) (s : ByteArray) (w : World) (hn : s.size ≤ 140737488351232) (h : WrSt W0 g gw v st w) :
    Calls Tryz.prog 62 #[.pointer (some ⟨g, 0, none⟩), .string s] w (WPost W0 g gw v st (encT s) w) := by
  have c0 : w.cell? ⟨g, 0, none⟩ = some (.pointer (some ⟨gw, 0, none⟩)) := h.wb.cell 0
  have HH := Lib.hid h
  have HN := Lib.hid (wtext_any gw v st.1 s w hn h.isw)
  clear h
  go_enter Tryz.func62, Tryz.ntmps62
  go_wp2_with fail
  refine HN.out.mono ?_
  rintro e w1 ⟨rfl, v', h1, h2⟩
  have hb1 : Blk w1 g 68 #[.pointer (some ⟨gw, 0, none⟩), .int .i64 st.2] := HH.out.wb.touch h2.touch (by
    rintro (e | e)
    · exact HH.out.wb.ne_ HH.out.isw.blk (by decide) e
    · exact HH.out.isw.own.ne_blk HH.out.wb (by decide) e)
  have HK := Lib.hid (keep_any g gw st.2 (putE st.1 (numL s.size ++ s.data.toList)) w1 hb1)
  clear hb1
  go_wp2_with fail
  refine HK.out.mono ?_
  rintro e w2 ⟨rfl, h3, h4⟩
  go_wp2_with fail
  go_end0
  exact ⟨rfl, HH.out.one h1 h2 h3 h4⟩
end Go.Proofs.YtdpjjnbelgaagaaGreatDoor

namespace Go.Proofs.YtdpjjnbelgaagaaGreatDoor
open Go.ChangeShapes Go.WideShapes Go.ChangeAt Go.RowKit
set_option maxRecDepth 100000

set_option maxHeartbeats 1000000 in
theorem cwevr_any (W0 : World) (g gw : Nat) (v : Value) (st : WT) (ep : Int) (ver rel : ByteArray) (w : World) (h0 : 0 ≤ ep) (h1 : ep ≤ 9223372036854775807) (hv : ver.size ≤ 140737488351232) (hr : rel.size ≤ 140737488351232) (h : WrSt W0 g gw v st w) :
    Calls Tryz.prog 63 #[.pointer (some ⟨g, 0, none⟩), .agg #[.int .i64 ep, .string ver, .string rel]] w (WPost W0 g gw v st (encV ep ver rel) w) := by
  obtain ⟨n, rfl⟩ : ∃ n : Nat, ep = n := ⟨ep.toNat, (to_nat h0).symm⟩
  have hb1 := new_b w (.cells #[.int .i64 (n : Int), .string ver, .string rel] 24)
  obtain ⟨b, hbe⟩ : ∃ b, b = w.heap.size := ⟨_, rfl⟩
  obtain ⟨w1, hw1⟩ : ∃ w1, w1 = w.alloc (.cells #[.int .i64 (n : Int), .string ver, .string rel] 24) := ⟨_, rfl⟩
  have hx1 : Blk w1 b 24 #[.int .i64 (n : Int), .string ver, .string rel] := by rw [hw1, hbe]; exact Blk.new _ _ _
  rw [← hw1] at hb1
  have HS1 := Lib.hid (show WrSt W0 g gw v st w1 ∧ Blk w1 b 24 #[.int .i64 (n : Int), .string ver, .string rel] from ⟨h.below hb1, hx1⟩)
  have HC1 := Lib.hid (CStep.of_below (g := g) (gw := gw) (v := v) hb1)
  have c0 : w1.cell? ⟨b, 0, none⟩ = some (.int .i64 (n : Int)) := hx1.cell 0
  have HN := Lib.hid (cwnum_any W0 g gw v st n w1 (by omega) HS1.out.1)
  clear hx1 hb1 h h0 h1
  go_enter Tryz.func63, Tryz.ntmps63
  go_upto_region 1 with fail
  rw [← hw1, ← hbe]
  clear hw1 hbe
  go_wp2_with fail
  refine HN.out.mono ?_
  rintro e w2 ⟨rfl, v2, st2, hs2, hr2, hc2⟩
  have hx2 := HS1.out.1.far hc2 HS1.out.2 (by decide) (by decide) (by decide)
  have c1 : w2.cell? ⟨b, 1, none⟩ = some (.string ver) := hx2.cell 1
  have HS2 := Lib.hid (show WrSt W0 g gw v2 st2 w2 ∧ Blk w2 b 24 #[.int .i64 (n : Int), .string ver, .string rel] from ⟨hs2, hx2⟩)
  have HC2 := Lib.hid (show CStep g gw w v w2 v2 ∧ WrRel st (numL n) st2 from ⟨HC1.out.trans hc2, hr2⟩)
  have HN2 := Lib.hid (cwtext_any W0 g gw v2 st2 ver w2 hv hs2)
  clear hs2 hr2 hc2 hx2 HN HC1 HS1 c0
  go_wp2_with fail
  refine HN2.out.mono ?_
  rintro e w3 ⟨rfl, v3, st3, hs3, hr3, hc3⟩
  have hx3 := HS2.out.1.far hc3 HS2.out.2 (by decide) (by decide) (by decide)
  have c2 : w3.cell? ⟨b, 2, none⟩ = some (.string rel) := hx3.cell 2
  have HC3 := Lib.hid (show CStep g gw w v w3 v3 ∧ WrRel st (numL n ++ encT ver) st3 from ⟨HC2.out.1.trans hc3, HC2.out.2.trans hr3⟩)
  have HN3 := Lib.hid (cwtext_any W0 g gw v3 st3 rel w3 hr hs3)
  clear hs3 hr3 hc3 hx3 HN2 HC2 HS2 c1
  go_wp2_with fail
  refine HN3.out.mono ?_
  rintro e w4 ⟨rfl, v4, st4, hs4, hr4, hc4⟩
  go_wp2_with fail
  go_end0
  refine ⟨rfl, v4, st4, hs4, ?_, HC3.out.1.trans hc4⟩
  have := HC3.out.2.trans hr4
  rw [List.append_assoc] at this
  exact this
/-- What a Dep must be to be written. -/
def DepD.small (d : DepD) : Prop := d.name.size ≤ 64 ∧ (0 ≤ d.op ∧ d.op < 256) ∧ (0 ≤ d.ep ∧ d.ep ≤ 2147483647) ∧ d.ver.size ≤ 64 ∧ d.rel.size ≤ 64
theorem dep_small {d : DepD} (h : depE d = true) : d.small := by
  unfold depE at h
  simp only [Bool.and_eq_true] at h
  obtain ⟨h1, h2, h3⟩ := h
  have h4 := op_size h2
  have h5 := name_size h1
  by_cases h0 : d.op = 0
  · rw [if_pos h0] at h3
    obtain ⟨e1, e2, e3⟩ := zero_evr h3
    exact ⟨h5, by omega, by omega, by rw [e2]; decide, by rw [e3]; decide⟩
  · rw [if_neg h0, Bool.and_eq_true] at h3
    obtain ⟨e1, e2, e3, e4⟩ := evr_size h3.2
    exact ⟨h5, by omega, ⟨e1, e2⟩, e3, e4⟩
set_option maxHeartbeats 1000000 in
theorem cwdep_any (W0 : World) (g gw : Nat) (v : Value) (st : WT) (d : DepD) (w : World) (hd : d.small) (h : WrSt W0 g gw v st w) :
    Calls Tryz.prog 65 #[.pointer (some ⟨g, 0, none⟩), d.val] w (WPost W0 g gw v st (encD d) w) := by
  rcases d with ⟨nm, op, ep, ver, rel⟩
  obtain ⟨d1, ⟨d2, d3⟩, ⟨d4, d5⟩, d6, d7⟩ := hd
  simp only at d1 d2 d3 d4 d5 d6 d7
  by_cases hk : op = 0
  · subst hk
    have hb1 := new_b w (.cells #[.string nm, .int .u8 0, .int .i64 ep, .string ver, .string rel] 32)
    obtain ⟨b, hbe⟩ : ∃ b, b = w.heap.size := ⟨_, rfl⟩
    obtain ⟨w1, hw1⟩ : ∃ w1, w1 = w.alloc (.cells #[.string nm, .int .u8 0, .int .i64 ep, .string ver, .string rel] 32) := ⟨_, rfl⟩
    have hx1 : Blk w1 b 32 #[.string nm, .int .u8 0, .int .i64 ep, .string ver, .string rel] := by rw [hw1, hbe]; exact Blk.new _ _ _
    rw [← hw1] at hb1
    have HS1 := Lib.hid (show WrSt W0 g gw v st w1 ∧ Blk w1 b 32 #[.string nm, .int .u8 0, .int .i64 ep, .string ver, .string rel] from ⟨h.below hb1, hx1⟩)
    have HC1 := Lib.hid (CStep.of_below (g := g) (gw := gw) (v := v) hb1)
    have c0 : w1.cell? ⟨b, 0, none⟩ = some (.string nm) := hx1.cell 0
    have HN := Lib.hid (cwtext_any W0 g gw v st nm w1 (by omega) HS1.out.1)
    clear hx1 hb1 h
    obtain ⟨B, hB⟩ : ∃ B, B = encD ⟨nm, 0, ep, ver, rel⟩ := ⟨_, rfl⟩
    rw [← hB]
    have HBy := Lib.hid hB
    clear hB
    go_enter Tryz.func65, Tryz.ntmps65
    go_upto_region 1 with fail
    rw [← hw1, ← hbe]
    clear hw1 hbe
    go_wp2_with fail
    refine HN.out.mono ?_
    rintro e w2 ⟨rfl, v2, st2, hs2, hr2, hc2⟩
    have hx2 := HS1.out.1.far hc2 HS1.out.2 (by decide) (by decide) (by decide)
    have c1 : w2.cell? ⟨b, 1, none⟩ = some (.int .u8 0) := hx2.cell 1
    have HS2 := Lib.hid (show WrSt W0 g gw v2 st2 w2 ∧ Blk w2 b 32 #[.string nm, .int .u8 0, .int .i64 ep, .string ver, .string rel] from ⟨hs2, hx2⟩)
    have HC2 := Lib.hid (show CStep g gw w v w2 v2 ∧ WrRel st (encT nm) st2 from ⟨HC1.out.trans hc2, hr2⟩)
    have HN2 := Lib.hid (show Calls Tryz.prog 61 #[.pointer (some ⟨g, 0, none⟩), .int .i64 0] w2 (WPost W0 g gw v2 st2 (numL 0) w2) from cwnum_any W0 g gw v2 st2 0 w2 (by omega) hs2)
    clear hs2 hr2 hc2 hx2 HN HC1 HS1 c0
    go_wp2_with fail
    refine HN2.out.mono ?_
    rintro e w3 ⟨rfl, v3, st3, hs3, hr3, hc3⟩
    have hx3 := HS2.out.1.far hc3 HS2.out.2 (by decide) (by decide) (by decide)
    have c2 : w3.cell? ⟨b, 1, none⟩ = some (.int .u8 0) := hx3.cell 1
    have HC3 := Lib.hid (show WrSt W0 g gw v3 st3 w3 ∧ CStep g gw w v w3 v3 ∧ WrRel st (encT nm ++ numL 0) st3 from ⟨hs3, HC2.out.1.trans hc3, HC2.out.2.trans hr3⟩)
    clear hs3 hr3 hc3 hx3 HN2 HC2 HS2 c1
    go_wp2_with fail
    go_end0
    refine ⟨rfl, v3, st3, HC3.out.1, ?_, HC3.out.2.1⟩
    have := HC3.out.2.2
    rw [HBy.out]
    unfold encD
    simpa using this
  · have hk : ¬ op = 0 := hk
    obtain ⟨k, rfl⟩ : ∃ n : Nat, op = n := ⟨op.toNat, (to_nat d2).symm⟩
    have hb1 := new_b w (.cells #[.string nm, .int .u8 (k : Int), .int .i64 ep, .string ver, .string rel] 32)
    obtain ⟨b, hbe⟩ : ∃ b, b = w.heap.size := ⟨_, rfl⟩
    obtain ⟨w1, hw1⟩ : ∃ w1, w1 = w.alloc (.cells #[.string nm, .int .u8 (k : Int), .int .i64 ep, .string ver, .string rel] 32) := ⟨_, rfl⟩
    have hx1 : Blk w1 b 32 #[.string nm, .int .u8 (k : Int), .int .i64 ep, .string ver, .string rel] := by rw [hw1, hbe]; exact Blk.new _ _ _
    rw [← hw1] at hb1
    have HS1 := Lib.hid (show WrSt W0 g gw v st w1 ∧ Blk w1 b 32 #[.string nm, .int .u8 (k : Int), .int .i64 ep, .string ver, .string rel] from ⟨h.below hb1, hx1⟩)
    have HC1 := Lib.hid (CStep.of_below (g := g) (gw := gw) (v := v) hb1)
    have c0 : w1.cell? ⟨b, 0, none⟩ = some (.string nm) := hx1.cell 0
    have HN := Lib.hid (cwtext_any W0 g gw v st nm w1 (by omega) HS1.out.1)
    clear hx1 hb1 h
    obtain ⟨B, hB⟩ : ∃ B, B = encD ⟨nm, (k : Int), ep, ver, rel⟩ := ⟨_, rfl⟩
    rw [← hB]
    have HBy := Lib.hid hB
    clear hB
    have hwr : IntKind.i64.wrap ((k : Int)) = (k : Int) := by rw [IntKind.wrap_i64]; omega
    have hk2 : ((k : Int) != 0) = true := by simp; omega
    have hk3 : ((k : Int) == 0) = false := by simp; omega
    go_enter Tryz.func65, Tryz.ntmps65
    go_upto_region 1 with fail
    rw [← hw1, ← hbe]
    clear hw1 hbe
    go_wp2_with fail
    refine HN.out.mono ?_
    rintro e w2 ⟨rfl, v2, st2, hs2, hr2, hc2⟩
    have hx2 := HS1.out.1.far hc2 HS1.out.2 (by decide) (by decide) (by decide)
    have c1 : w2.cell? ⟨b, 1, none⟩ = some (.int .u8 (k : Int)) := hx2.cell 1
    have HS2 := Lib.hid (show WrSt W0 g gw v2 st2 w2 ∧ Blk w2 b 32 #[.string nm, .int .u8 (k : Int), .int .i64 ep, .string ver, .string rel] from ⟨hs2, hx2⟩)
    have HC2 := Lib.hid (show CStep g gw w v w2 v2 ∧ WrRel st (encT nm) st2 from ⟨HC1.out.trans hc2, hr2⟩)
    have HN2 := Lib.hid (cwnum_any W0 g gw v2 st2 k w2 (by omega) hs2)
    clear hs2 hr2 hc2 hx2 HN HC1 HS1 c0
    go_wp2_with fail
    refine HN2.out.mono ?_
    rintro e w3 ⟨rfl, v3, st3, hs3, hr3, hc3⟩
    have hx3 := HS2.out.1.far hc3 HS2.out.2 (by decide) (by decide) (by decide)
    have c1' : w3.cell? ⟨b, 1, none⟩ = some (.int .u8 (k : Int)) := hx3.cell 1
    have c2 : w3.cell? ⟨b, 2, none⟩ = some (.int .i64 ep) := hx3.cell 2
    have c3 : w3.cell? ⟨b, 3, none⟩ = some (.string ver) := hx3.cell 3
    have c4 : w3.cell? ⟨b, 4, none⟩ = some (.string rel) := hx3.cell 4
    have HC3 := Lib.hid (show CStep g gw w v w3 v3 ∧ WrRel st (encT nm ++ numL k) st3 from ⟨HC2.out.1.trans hc3, HC2.out.2.trans hr3⟩)
    have HN3 := Lib.hid (cwevr_any W0 g gw v3 st3 ep ver rel w3 d4 (by omega) (by omega) (by omega) hs3)
    clear hs3 hr3 hc3 hx3 HN2 HC2 HS2 c1
    go_wp2_with fail
    refine HN3.out.mono ?_
    rintro e w4 ⟨rfl, v4, st4, hs4, hr4, hc4⟩
    have HC4 := Lib.hid (show WrSt W0 g gw v4 st4 w4 ∧ CStep g gw w v w4 v4 ∧ WrRel st (encT nm ++ numL k ++ encV ep ver rel) st4 from ⟨hs4, HC3.out.1.trans hc4, HC3.out.2.trans hr4⟩)
    clear hs4 hr4 hc4
    go_wp2_with fail
    go_end0
    refine ⟨rfl, v4, st4, HC4.out.1, ?_, HC4.out.2.1⟩
    have := HC4.out.2.2
    rw [HBy.out]
    unfold encD
    simp only [Int.toNat_natCast]
    rw [if_neg (by omega), ← List.append_assoc]
    exact this
end Go.Proofs.YtdpjjnbelgaagaaGreatDoor

namespace Go.Proofs.YtdpjjnbelgaagaaGreatDoor
open Go.ChangeShapes Go.WideShapes Go.ChangeAt Go.RowKit
set_option maxRecDepth 100000

abbrev VD : DepD → Value → World → Prop := fun d v _ => v = d.val ∧ d.small
set_option maxHeartbeats 4000000 in
theorem crevr_any {g gr : Nat} {s : ByteArray} {left : Int} {at_ : Nat} {e : Int} {w : World} (h : RSt g gr s left at_ e w) : Calls Tryz.prog 134 #[.pointer (some ⟨g, 0, none⟩)] w
    fun ret w' => ∃ (ep : Int) (ver rel : ByteArray) (at2 : Nat) (e2 : Int), ret = .returned (.agg #[.int .i64 ep, .string ver, .string rel]) ∧ (0 ≤ ep ∧ ep ≤ 2147483647 ∧ ver.size ≤ 64 ∧ rel.size ≤ 64) ∧ RSt g gr s left at2 e2 w' ∧ Res pEVR s at_ e (ep, ver, rel) at2 e2 ∧ Touch (RF g gr) w w' := by
  obtain ⟨b, hbe⟩ : ∃ b, b = w.heap.size := ⟨_, rfl⟩
  obtain ⟨w1, hw1⟩ : ∃ w1, w1 = w.alloc (.cells #[.int .i64 0, .string ⟨#[]⟩, .string ⟨#[]⟩] 24) := ⟨_, rfl⟩
  have hb1 : Below w.heap.size w w1 := by rw [hw1]; exact new_b _ _
  have hx1 : Blk w1 b 24 #[.int .i64 0, .string ⟨#[]⟩, .string ⟨#[]⟩] := by rw [hw1, hbe]; exact Blk.new _ _ _
  have HS1 := Lib.hid (show RSt g gr s left at_ e w1 ∧ Blk w1 b 24 #[.int .i64 0, .string ⟨#[]⟩, .string ⟨#[]⟩] ∧ Touch (RF g gr) w w1 from ⟨h.below hb1, hx1, Touch.of_below hb1 _⟩)
  have HF := Lib.hid (show ∀ at_ e w w', RSt g gr s left at_ e w → Blk w b 24 #[.int .i64 0, .string ⟨#[]⟩, .string ⟨#[]⟩] → Touch (RF g gr) w w' → Blk w' b 24 #[.int .i64 0, .string ⟨#[]⟩, .string ⟨#[]⟩] from fun _ _ _ _ h hb ht => h.far ht hb (by decide) (by decide))
  have HN := Lib.hid (crnum_any 0 2147483647 (by decide) HS1.out.1)
  have HBg := Lib.hid (show w.heap.size ≤ b by omega)
  have c0 : w1.cell? ⟨g, 0, none⟩ = some (.pointer (some ⟨gr, 0, none⟩)) := HS1.out.1.rb.cell 0
  clear h hb1 hx1
  go_enter Tryz.func134, Tryz.ntmps134
  go_upto_region 1 with fail
  rw [← hw1, ← hbe]
  have HG := Lib.hid hbe
  clear hw1 hbe
  go_wp2_with (first
    | (go_at_call 83; (with_reducible refine HN.out.mono ?_); rintro r w2 ⟨n, at1, e1, rfl, hn, hs2, hr2, ht2, hl2, hz2⟩)
    | fail)
  have HS2 := Lib.hid (show RSt g gr s left at1 e1 w2 ∧ Blk w2 b 24 #[.int .i64 0, .string ⟨#[]⟩, .string ⟨#[]⟩] ∧ Touch (RF g gr) w w2 from ⟨hs2, HF.out _ _ _ _ HS1.out.1 HS1.out.2.1 ht2, HS1.out.2.2.trans ht2 fun _ _ h => h⟩)
  have HR2 := Lib.hid hr2
  have HN2 := Lib.hid (crname_any hs2)
  clear HN HS1 c0 hs2 hr2 ht2 hl2 hz2
  go_wp2_with (first
    | (go_at_call 133; (with_reducible refine HN2.out.mono ?_); rintro r w3 ⟨ver, v3, at2, e2, rfl, ⟨rfl, hv⟩, hs3, hr3, ht3⟩)
    | fail)
  have HS3 := Lib.hid (show RSt g gr s left at2 e2 w3 ∧ Blk w3 b 24 #[.int .i64 0, .string ⟨#[]⟩, .string ⟨#[]⟩] ∧ Touch (RF g gr) w w3 from ⟨hs3, HF.out _ _ _ _ HS2.out.1 HS2.out.2.1 ht3, HS2.out.2.2.trans ht3 fun _ _ h => h⟩)
  have HR3 := Lib.hid hr3
  have HN3 := Lib.hid (crname_any hs3)
  clear HN2 HS2 hs3 hr3 ht3
  go_wp2_with (first
    | (go_at_call 133; (with_reducible refine HN3.out.mono ?_); rintro r w4 ⟨rel, v4, at3, e3, rfl, ⟨rfl, hv4⟩, hs4, hr4, ht4⟩; have hx4 := HF.out _ _ _ _ HS3.out.1 HS3.out.2.1 ht4; have HS4 := Lib.hid (show RSt g gr s left at3 e3 w4 ∧ Blk w4 b 24 #[.int .i64 0, .string ⟨#[]⟩, .string ⟨#[]⟩] ∧ Touch (RF g gr) w w4 from ⟨hs4, hx4, HS3.out.2.2.trans ht4 fun _ _ h => h⟩); have HR4 := Lib.hid hr4; have q0 : w4.cell? ⟨b, 0, none⟩ = some (.int .i64 0) := hx4.cell 0; have q1 : w4.cell? ⟨b, 1, none⟩ = some (.string ⟨#[]⟩) := hx4.cell 1; have q2 : w4.cell? ⟨b, 2, none⟩ = some (.string ⟨#[]⟩) := hx4.cell 2; have f0 := hx4.frozen 0; have f1 := hx4.frozen 1; have f2 := hx4.frozen 2; have bl : b < w4.heap.size := hx4.lt; clear hx4 hs4 hr4 ht4)
    | fail)
  have hk := ((HS4.out.2.1.set_ 0 (.int .i64 (n : Int))).set_ 1 (.string ver)).set_ 2 (.string rel)
  have hbg : b ≠ g ∧ b ≠ gr := ⟨HS4.out.2.1.ne_ HS4.out.1.rb (by decide), HS4.out.2.1.ne_ HS4.out.1.wr (by decide)⟩
  refine bodyPost_ret (results_cell_row rfl _ _ b 24 _ (0, 0) _ rfl hk Tryz.underlying24 rfl (by kernel_rfl)) rfl ⟨(n : Int), ver, rel, at3, e3, rfl, ⟨by omega, hn, hv, hv4⟩, ?_, ?_, ?_⟩
  · exact ⟨((HS4.out.1.rb.far hbg.1.symm _).far hbg.1.symm _).far hbg.1.symm _, ((HS4.out.1.wr.far hbg.2.symm _).far hbg.2.symm _).far hbg.2.symm _, HS4.out.1.hat, HS4.out.1.hs⟩
  · exact res_bind HR2.out (res_bind HR3.out (res_map HR4.out))
  · have hb0 := HBg.out
    exact ((HS4.out.2.2.setCell (p := ⟨b, 0, none⟩) (fun h => absurd h (by show ¬ b < _; omega)) _).setCell (p := ⟨b, 1, none⟩) (fun h => absurd h (by show ¬ b < _; omega)) _).setCell (p := ⟨b, 2, none⟩) (fun h => absurd h (by show ¬ b < _; omega)) _
end Go.Proofs.YtdpjjnbelgaagaaGreatDoor

namespace Go.Proofs.YtdpjjnbelgaagaaGreatDoor
open Go.ChangeShapes Go.WideShapes Go.ChangeAt Go.RowKit
set_option maxRecDepth 100000

/-- Stores into a block of one's own. -/
theorem RSt.set {g gr : Nat} {s : ByteArray} {left : Int} {at_ : Nat} {e : Int} {w : World} (h : RSt g gr s left at_ e w) {p : Addr} (h1 : p.block ≠ g) (h2 : p.block ≠ gr) (v : Value) : RSt g gr s left at_ e (w.setCell p v) :=
  ⟨h.rb.far h1.symm _, h.wr.far h2.symm _, h.hat, h.hs⟩
theorem touch_set {F : Nat → Prop} {a w : World} (h : Touch F a w) {p : Addr} (hp : a.heap.size ≤ p.block) (v : Value) : Touch F a (w.setCell p v) := h.setCell (fun h => absurd h (by omega)) v
abbrev zeroD : Array Value := #[.string ⟨#[]⟩, .int .u8 0, .int .i64 0, .string ⟨#[]⟩, .string ⟨#[]⟩]
abbrev depA (d : DepD) : Array Value := #[.string d.name, .int .u8 d.op, .int .i64 d.ep, .string d.ver, .string d.rel]
/-- reader.dep's own blocks: the result's, and the one that it fills. -/
structure DSt (w : World) (b bd : Nat) (c : Array Value) (g gr : Nat) (s : ByteArray) (left : Int) (at_ : Nat) (e : Int) (W : World) : Prop where
  rs : RSt g gr s left at_ e W
  rz : Blk W b 32 zeroD
  rd : Blk W bd 32 c
  tt : Touch (RF g gr) w W
  lo : w.heap.size ≤ b
  ld : w.heap.size ≤ bd
  nb : b ≠ bd
theorem DSt.call {w : World} {b bd : Nat} {c : Array Value} {g gr : Nat} {s : ByteArray} {left : Int} {at_ at2 : Nat} {e e2 : Int} {W W' : World} (h : DSt w b bd c g gr s left at_ e W) (hr : RSt g gr s left at2 e2 W') (ht : Touch (RF g gr) W W') : DSt w b bd c g gr s left at2 e2 W' :=
  ⟨hr, h.rs.far ht h.rz (by decide) (by decide), h.rs.far ht h.rd (by decide) (by decide), h.tt.trans ht fun _ _ h => h, h.lo, h.ld, h.nb⟩
theorem DSt.ne {w : World} {b bd : Nat} {c : Array Value} {g gr : Nat} {s : ByteArray} {left : Int} {at_ : Nat} {e : Int} {W : World} (h : DSt w b bd c g gr s left at_ e W) : (b ≠ g ∧ b ≠ gr) ∧ (bd ≠ g ∧ bd ≠ gr) :=
  ⟨⟨h.rz.ne_ h.rs.rb (by decide), h.rz.ne_ h.rs.wr (by decide)⟩, h.rd.ne_ h.rs.rb (by decide), h.rd.ne_ h.rs.wr (by decide)⟩
theorem DSt.set {w : World} {b bd : Nat} {c : Array Value} {g gr : Nat} {s : ByteArray} {left : Int} {at_ : Nat} {e : Int} {W : World} (h : DSt w b bd c g gr s left at_ e W) (i : Nat) (v : Value) : DSt w b bd (c.setIfInBounds i v) g gr s left at_ e (W.setCell ⟨bd, i, none⟩ v) :=
  ⟨h.rs.set h.ne.2.1 h.ne.2.2 v, h.rz.far h.nb v, h.rd.set_ i v, touch_set h.tt h.ld v, h.lo, h.ld, h.nb⟩
/-- The result is laid. -/
theorem DSt.done {w : World} {b bd : Nat} {d : DepD} {g gr : Nat} {s : ByteArray} {left : Int} {at_ : Nat} {e : Int} {W : World} (h : DSt w b bd (depA d) g gr s left at_ e W) :
    ∃ W', W' = ((((W.setCell ⟨b, 0, none⟩ (.string d.name)).setCell ⟨b, 1, none⟩ (.int .u8 d.op)).setCell ⟨b, 2, none⟩ (.int .i64 d.ep)).setCell ⟨b, 3, none⟩ (.string d.ver)).setCell ⟨b, 4, none⟩ (.string d.rel) ∧ Blk W' b 32 (depA d) ∧ RSt g gr s left at_ e W' ∧ Touch (RF g gr) w W' := by
  obtain ⟨⟨h1, h2⟩, _⟩ := h.ne
  have hl := h.lo
  refine ⟨_, rfl, ((((h.rz.set_ 0 _).set_ 1 _).set_ 2 _).set_ 3 _).set_ 4 _, ((((h.rs.set h1 h2 _).set h1 h2 _).set h1 h2 _).set h1 h2 _).set h1 h2 _, ?_⟩
  exact touch_set (touch_set (touch_set (touch_set (touch_set h.tt (by exact hl) _) (by exact hl) _) (by exact hl) _) (by exact hl) _) (by exact hl) _
set_option maxHeartbeats 8000000 in
theorem crdep_any {g gr : Nat} {s : ByteArray} {left : Int} {at_ : Nat} {e : Int} {w : World} (h : RSt g gr s left at_ e w) : Calls Tryz.prog 167 #[.pointer (some ⟨g, 0, none⟩)] w (RPost g gr s left at_ e pDep VD w) := by
  obtain ⟨b, hbe⟩ : ∃ b, b = w.heap.size := ⟨_, rfl⟩
  obtain ⟨w1, hw1⟩ : ∃ w1, w1 = w.alloc (.cells zeroD 32) := ⟨_, rfl⟩
  have hb1 : Below w.heap.size w w1 := by rw [hw1]; exact new_b _ _
  have hx1 : Blk w1 b 32 zeroD := by rw [hw1, hbe]; exact Blk.new _ _ _
  have HS1 := Lib.hid (show RSt g gr s left at_ e w1 ∧ Blk w1 b 32 zeroD ∧ Touch (RF g gr) w w1 ∧ w1.heap.size = b + 1 from ⟨h.below hb1, hx1, Touch.of_below hb1 _, by rw [hw1, hbe]; simp⟩)
  have HLo := Lib.hid (show w.heap.size ≤ b by omega)
  have HN := Lib.hid (crname_any HS1.out.1)
  clear h hb1 hx1
  go_enter Tryz.func167, Tryz.ntmps167
  go_upto_region 1 with fail
  rw [← hw1, ← hbe]
  have HG := Lib.hid hbe
  clear hw1 hbe
  go_upto_region 2 with (first
    | (go_at_call 133; (with_reducible refine HN.out.mono ?_); rintro r w2 ⟨nm, v2, at1, e1, rfl, ⟨rfl, hnm⟩, hs2, hr2, ht2⟩; have HQ2 := Lib.hid (show RSt g gr s left at1 e1 w2 ∧ Res (pText 64) s at_ e nm at1 e1 ∧ Touch (RF g gr) w1 w2 from ⟨hs2, hr2, ht2⟩); clear hs2 hr2 ht2)
    | fail)
  have HS2x := Lib.hid (show RSt g gr s left at1 e1 w2 ∧ Blk w2 b 32 zeroD ∧ Touch (RF g gr) w w2 ∧ b + 1 ≤ w2.heap.size from ⟨HQ2.out.1, HS1.out.1.far HQ2.out.2.2 HS1.out.2.1 (by decide) (by decide), HS1.out.2.2.1.trans HQ2.out.2.2 fun _ _ h => h, by have := HQ2.out.2.2.size; have := HS1.out.2.2.2; omega⟩)
  obtain ⟨bd, hbd⟩ : ∃ bd, bd = w2.heap.size := ⟨_, rfl⟩
  obtain ⟨w3, hw3⟩ : ∃ w3, w3 = w2.alloc (.cells #[.string nm, .int .u8 0, .int .i64 0, .string ⟨#[]⟩, .string ⟨#[]⟩] 32) := ⟨_, rfl⟩
  have hb3 : Below w2.heap.size w2 w3 := by rw [hw3]; exact new_b _ _
  have hx3 : Blk w3 bd 32 #[.string nm, .int .u8 0, .int .i64 0, .string ⟨#[]⟩, .string ⟨#[]⟩] := by rw [hw3, hbd]; exact Blk.new _ _ _
  have HD3 := Lib.hid (show DSt w b bd #[.string nm, .int .u8 0, .int .i64 0, .string ⟨#[]⟩, .string ⟨#[]⟩] g gr s left at1 e1 w3 from ⟨HS2x.out.1.below hb3, HS2x.out.2.1.below hb3 HS2x.out.2.1.lt, hx3, HS2x.out.2.2.1.trans (Touch.of_below hb3 (RF g gr)) fun _ _ h => h, HLo.out, by rw [hbd]; exact HS2x.out.2.2.1.size, by have := HS2x.out.2.2.2; omega⟩)
  have HR2 := Lib.hid HQ2.out.2.1
  have HN3 := Lib.hid (crnum_any 0 6 (by decide) HD3.out.rs)
  have c0 : w3.cell? ⟨g, 0, none⟩ = some (.pointer (some ⟨gr, 0, none⟩)) := HD3.out.rs.rb.cell 0
  rw [← hw3, ← hbd]
  have HBD := Lib.hid hbd
  clear hw3 hbd hb3 hx3 HS2x HQ2 HS1 HN
  go_upto_region 3 with (first
    | (go_at_call 83; (with_reducible refine HN3.out.mono ?_); rintro r w4 ⟨op, at2, e2, rfl, hop, hs4, hr4, ht4, hl4, hz4⟩; have HD4 := Lib.hid (HD3.out.call hs4 ht4); have HR4 := Lib.hid hr4; have HZ4 := Lib.hid hz4; have z0 : w4.cell? ⟨b, 0, none⟩ = some (.string ⟨#[]⟩) := HD4.out.rz.cell 0; have zf0 := HD4.out.rz.frozen 0; have y0 : w4.cell? ⟨bd, 0, none⟩ = some (.string nm) := HD4.out.rd.cell 0; have yf0 := HD4.out.rd.frozen 0; have z1 : w4.cell? ⟨b, 1, none⟩ = some (.int .u8 0) := HD4.out.rz.cell 1; have zf1 := HD4.out.rz.frozen 1; have y1 : w4.cell? ⟨bd, 1, none⟩ = some (.int .u8 0) := HD4.out.rd.cell 1; have yf1 := HD4.out.rd.frozen 1; have z2 : w4.cell? ⟨b, 2, none⟩ = some (.int .i64 0) := HD4.out.rz.cell 2; have zf2 := HD4.out.rz.frozen 2; have y2 : w4.cell? ⟨bd, 2, none⟩ = some (.int .i64 0) := HD4.out.rd.cell 2; have yf2 := HD4.out.rd.frozen 2; have z3 : w4.cell? ⟨b, 3, none⟩ = some (.string ⟨#[]⟩) := HD4.out.rz.cell 3; have zf3 := HD4.out.rz.frozen 3; have y3 : w4.cell? ⟨bd, 3, none⟩ = some (.string ⟨#[]⟩) := HD4.out.rd.cell 3; have yf3 := HD4.out.rd.frozen 3; have z4 : w4.cell? ⟨b, 4, none⟩ = some (.string ⟨#[]⟩) := HD4.out.rz.cell 4; have zf4 := HD4.out.rz.frozen 4; have y4 : w4.cell? ⟨bd, 4, none⟩ = some (.string ⟨#[]⟩) := HD4.out.rd.cell 4; have yf4 := HD4.out.rd.frozen 4; have zl : b < w4.heap.size := HD4.out.rz.lt; have yl : bd < w4.heap.size := HD4.out.rd.lt; clear hs4 hr4 ht4 hl4 hz4; have hwr8 : IntKind.u8.wrap (op : Int) = (op : Int) := by (rw [IntKind.wrap_u8']; omega))
    | fail)
  have HD5 := Lib.hid (show DSt w b bd #[.string nm, .int .u8 (op : Int), .int .i64 0, .string ⟨#[]⟩, .string ⟨#[]⟩] g gr s left at2 e2 (w4.setCell ⟨bd, 1, none⟩ (.int .u8 (op : Int))) from HD4.out.set 1 (.int .u8 (op : Int)))
  obtain ⟨w5, hw5⟩ : ∃ w5, w5 = w4.setCell ⟨bd, 1, none⟩ (.int .u8 (op : Int)) := ⟨_, rfl⟩
  rw [← hw5] at HD5
  clear z0 zf0 y0 yf0 z1 zf1 y1 yf1 z2 zf2 y2 yf2 z3 zf3 y3 yf3 z4 zf4 y4 yf4 zl yl c0
  have z0 : w5.cell? ⟨b, 0, none⟩ = some (.string ⟨#[]⟩) := HD5.out.rz.cell 0
  have zf0 := HD5.out.rz.frozen 0
  have y0 : w5.cell? ⟨bd, 0, none⟩ = some (.string nm) := HD5.out.rd.cell 0
  have yf0 := HD5.out.rd.frozen 0
  have z1 : w5.cell? ⟨b, 1, none⟩ = some (.int .u8 0) := HD5.out.rz.cell 1
  have zf1 := HD5.out.rz.frozen 1
  have y1 : w5.cell? ⟨bd, 1, none⟩ = some (.int .u8 (op : Int)) := HD5.out.rd.cell 1
  have yf1 := HD5.out.rd.frozen 1
  have z2 : w5.cell? ⟨b, 2, none⟩ = some (.int .i64 0) := HD5.out.rz.cell 2
  have zf2 := HD5.out.rz.frozen 2
  have y2 : w5.cell? ⟨bd, 2, none⟩ = some (.int .i64 0) := HD5.out.rd.cell 2
  have yf2 := HD5.out.rd.frozen 2
  have z3 : w5.cell? ⟨b, 3, none⟩ = some (.string ⟨#[]⟩) := HD5.out.rz.cell 3
  have zf3 := HD5.out.rz.frozen 3
  have y3 : w5.cell? ⟨bd, 3, none⟩ = some (.string ⟨#[]⟩) := HD5.out.rd.cell 3
  have yf3 := HD5.out.rd.frozen 3
  have z4 : w5.cell? ⟨b, 4, none⟩ = some (.string ⟨#[]⟩) := HD5.out.rz.cell 4
  have zf4 := HD5.out.rz.frozen 4
  have y4 : w5.cell? ⟨bd, 4, none⟩ = some (.string ⟨#[]⟩) := HD5.out.rd.cell 4
  have yf4 := HD5.out.rd.frozen 4
  have zl : b < w5.heap.size := HD5.out.rz.lt
  have yl : bd < w5.heap.size := HD5.out.rd.lt
  rw [← hw5]
  clear hw5 HD4 HD3 HN3
  by_cases h0 : op = 0
  · subst h0
    have HD6 := Lib.hid (show DSt w b bd (depA ⟨nm, 0, 0, ⟨#[]⟩, ⟨#[]⟩⟩) g gr s left at2 e2 w5 from HD5.out)
    have y1' : w5.cell? ⟨bd, 1, none⟩ = some (.int .u8 0) := y1
    clear y1
    go_wp2_with fail
    obtain ⟨W', hW', k1, k2, k3⟩ := HD6.out.done
    exact bodyPost_ret (results_cell_row rfl _ _ b 32 _ (0, 0) _ rfl (hW' ▸ k1) Tryz.underlying32 rfl (by kernel_rfl)) rfl ⟨⟨nm, 0, 0, ⟨#[]⟩, ⟨#[]⟩⟩, _, at2, e2, rfl, ⟨rfl, hnm, ⟨show (0 : Int) ≤ 0 by decide, show (0 : Int) < 256 by decide⟩, ⟨show (0 : Int) ≤ 0 by decide, show (0 : Int) ≤ 2147483647 by decide⟩, show (⟨#[]⟩ : ByteArray).size ≤ 64 by decide, show (⟨#[]⟩ : ByteArray).size ≤ 64 by decide⟩, hW' ▸ k2, res_bind HR2.out (res_bind HR4.out (res_pure _)), hW' ▸ k3⟩
  · have hd0 : ((op : Int) == 0) = false := by simp; omega
    have hd1 : ((op : Int) != 0) = true := by simp; omega
    go_upto_region 4 with fail
    have HN5 := Lib.hid (crevr_any HD5.out.rs)
    go_upto_region 5 with (first
      | (go_at_call 134; (with_reducible refine HN5.out.mono ?_); rintro r w6 ⟨ep, ver, rel, at3, e3, rfl, ⟨hx0, hx1, hx2, hx3⟩, hs6, hr6, ht6⟩; have HD6 := Lib.hid (HD5.out.call hs6 ht6); have HR6 := Lib.hid hr6; clear z0 zf0 y0 yf0 z1 zf1 y1 yf1 z2 zf2 y2 yf2 z3 zf3 y3 yf3 z4 zf4 y4 yf4 zl yl; have z0 : w6.cell? ⟨b, 0, none⟩ = some (.string ⟨#[]⟩) := HD6.out.rz.cell 0; have zf0 := HD6.out.rz.frozen 0; have y0 : w6.cell? ⟨bd, 0, none⟩ = some (.string nm) := HD6.out.rd.cell 0; have yf0 := HD6.out.rd.frozen 0; have z1 : w6.cell? ⟨b, 1, none⟩ = some (.int .u8 0) := HD6.out.rz.cell 1; have zf1 := HD6.out.rz.frozen 1; have y1 : w6.cell? ⟨bd, 1, none⟩ = some (.int .u8 (op : Int)) := HD6.out.rd.cell 1; have yf1 := HD6.out.rd.frozen 1; have z2 : w6.cell? ⟨b, 2, none⟩ = some (.int .i64 0) := HD6.out.rz.cell 2; have zf2 := HD6.out.rz.frozen 2; have y2 : w6.cell? ⟨bd, 2, none⟩ = some (.int .i64 0) := HD6.out.rd.cell 2; have yf2 := HD6.out.rd.frozen 2; have z3 : w6.cell? ⟨b, 3, none⟩ = some (.string ⟨#[]⟩) := HD6.out.rz.cell 3; have zf3 := HD6.out.rz.frozen 3; have y3 : w6.cell? ⟨bd, 3, none⟩ = some (.string ⟨#[]⟩) := HD6.out.rd.cell 3; have yf3 := HD6.out.rd.frozen 3; have z4 : w6.cell? ⟨b, 4, none⟩ = some (.string ⟨#[]⟩) := HD6.out.rz.cell 4; have zf4 := HD6.out.rz.frozen 4; have y4 : w6.cell? ⟨bd, 4, none⟩ = some (.string ⟨#[]⟩) := HD6.out.rd.cell 4; have yf4 := HD6.out.rd.frozen 4; have zl : b < w6.heap.size := HD6.out.rz.lt; have yl : bd < w6.heap.size := HD6.out.rd.lt; clear hs6 hr6 ht6)
      | fail)
    obtain ⟨w7, hw7⟩ : ∃ w7, w7 = ((w6.setCell ⟨bd, 2, none⟩ (.int .i64 ep)).setCell ⟨bd, 3, none⟩ (.string ver)).setCell ⟨bd, 4, none⟩ (.string rel) := ⟨_, rfl⟩
    have HD7 := Lib.hid (show DSt w b bd (depA ⟨nm, (op : Int), ep, ver, rel⟩) g gr s left at3 e3 w7 from hw7 ▸ ((HD6.out.set 2 (.int .i64 ep)).set 3 (.string ver)).set 4 (.string rel))
    clear z0 zf0 y0 yf0 z1 zf1 y1 yf1 z2 zf2 y2 yf2 z3 zf3 y3 yf3 z4 zf4 y4 yf4 zl yl
    have z0 : w7.cell? ⟨b, 0, none⟩ = some (.string ⟨#[]⟩) := HD7.out.rz.cell 0
    have zf0 := HD7.out.rz.frozen 0
    have y0 : w7.cell? ⟨bd, 0, none⟩ = some (.string nm) := HD7.out.rd.cell 0
    have yf0 := HD7.out.rd.frozen 0
    have z1 : w7.cell? ⟨b, 1, none⟩ = some (.int .u8 0) := HD7.out.rz.cell 1
    have zf1 := HD7.out.rz.frozen 1
    have y1 : w7.cell? ⟨bd, 1, none⟩ = some (.int .u8 (op : Int)) := HD7.out.rd.cell 1
    have yf1 := HD7.out.rd.frozen 1
    have z2 : w7.cell? ⟨b, 2, none⟩ = some (.int .i64 0) := HD7.out.rz.cell 2
    have zf2 := HD7.out.rz.frozen 2
    have y2 : w7.cell? ⟨bd, 2, none⟩ = some (.int .i64 ep) := HD7.out.rd.cell 2
    have yf2 := HD7.out.rd.frozen 2
    have z3 : w7.cell? ⟨b, 3, none⟩ = some (.string ⟨#[]⟩) := HD7.out.rz.cell 3
    have zf3 := HD7.out.rz.frozen 3
    have y3 : w7.cell? ⟨bd, 3, none⟩ = some (.string ver) := HD7.out.rd.cell 3
    have yf3 := HD7.out.rd.frozen 3
    have z4 : w7.cell? ⟨b, 4, none⟩ = some (.string ⟨#[]⟩) := HD7.out.rz.cell 4
    have zf4 := HD7.out.rz.frozen 4
    have y4 : w7.cell? ⟨bd, 4, none⟩ = some (.string rel) := HD7.out.rd.cell 4
    have yf4 := HD7.out.rd.frozen 4
    have zl : b < w7.heap.size := HD7.out.rz.lt
    have yl : bd < w7.heap.size := HD7.out.rd.lt
    rw [← hw7]
    clear hw7 HD6 HD5 HN5
    go_wp2_with fail
    obtain ⟨W', hW', k1, k2, k3⟩ := HD7.out.done
    exact bodyPost_ret (results_cell_row rfl _ _ b 32 _ (0, 0) _ rfl (hW' ▸ k1) Tryz.underlying32 rfl (by kernel_rfl)) rfl ⟨⟨nm, (op : Int), ep, ver, rel⟩, _, at3, e3, rfl, ⟨rfl, hnm, ⟨show (0 : Int) ≤ (op : Int) by omega, show (op : Int) < 256 by omega⟩, ⟨hx0, hx1⟩, hx2, hx3⟩, hW' ▸ k2, res_bind HR2.out (res_bind HR4.out (by rw [if_neg h0]; exact res_bind HR6.out (res_pure _))), hW' ▸ k3⟩
end Go.Proofs.YtdpjjnbelgaagaaGreatDoor

namespace Go.Proofs.YtdpjjnbelgaagaaGreatDoor
open Go.ChangeShapes Go.WideShapes Go.ChangeAt Go.RowKit Go.Deep
set_option maxRecDepth 100000

/-- get's state: what it has gathered, the reader, what it has left alone. -/
structure GSt {α : Type} (K : Kd α) (t : TypeId) (w : World) (g gr : Nat) (s : ByteArray) (left : Int) (a : Nat) (e : Int) (l : List α) (v : Value) (W : World) : Prop where
  rs : RSt g gr s left a e W
  ac : Acc K t w.heap.size W l v
  tt : Touch (RF g gr) w W
  lt : g < w.heap.size ∧ gr < w.heap.size
section
variable {α : Type} {K : Kd α} {t : TypeId} {w W W' : World} {g gr : Nat} {s : ByteArray} {left left' : Int} {a a' : Nat} {e e' : Int} {l : List α} {v : Value}
theorem GSt.call (h : GSt K t w g gr s left a e l v W) (hr : RSt g gr s left' a' e' W') (ht : Touch (RF g gr) W W') : GSt K t w g gr s left' a' e' l v W' :=
  ⟨hr, h.ac.keep ht.size fun b h1 h2 => ht.block b h2 (by have := h.lt; rintro (e | e) <;> omega), h.tt.trans ht fun _ _ h => h, h.lt⟩
theorem GSt.below (h : GSt K t w g gr s left a e l v W) (hb : Below W.heap.size W W') : GSt K t w g gr s left a e l v W' := h.call (h.rs.below hb) (Touch.of_below hb _)
theorem GSt.drewN (h : GSt K t w g gr s left a e l v W) (n : Nat) : GSt K t w g gr s left a e l v (W.drewN n) := h.call (h.rs.drewN n) ((Touch.refl _ _).drewN n)
theorem GSt.own (h : GSt K t w g gr s left a e l v W) : ∃ b, v.ownBlock = some b → w.heap.size ≤ b ∧ b < W.heap.size := by
  obtain ⟨ps, h1, h2, h3, h4⟩ := h.ac.ex
  cases hv : v.ownBlock with
  | none => exact ⟨0, fun h => by cases h⟩
  | some b => exact ⟨b, fun _ => ⟨h3 b hv, h2.lt b hv⟩⟩
theorem GSt.ownB (h : GSt K t w g gr s left a e l v W) (b : Nat) (hb : v.ownBlock = some b) : w.heap.size ≤ b ∧ b < W.heap.size := by
  obtain ⟨ps, h1, h2, h3, h4⟩ := h.ac.ex
  exact ⟨h3 b hb, h2.lt b hb⟩
theorem GSt.push {x : α} {r : K.R} {xs : List Value} {v' : Value} {m0 : Nat} (h : GSt K t w g gr s left a e l v W) (hown : Own W t K.size v l.length xs) (hm : w.heap.size ≤ m0) (hv : ∀ b, v.ownBlock = some b → b < m0) (hx : K.holds (free m0) W x r)
    (hO : Own W' t K.size v' (l.length + 1) (xs ++ K.cells x r)) (hg : W.grownBy W' v.ownBlock) (hat : v'.ownBlock = v.ownBlock ∨ v'.ownBlock = some W.heap.size) : GSt K t w g gr s left a e (l ++ [x]) v' W' := by
  have hne : ∀ b, b < w.heap.size → v.ownBlock ≠ some b := fun b hb e => by have := (h.ownB b e).1; omega
  refine ⟨⟨h.rs.rb.grown hg (fun e => hne _ h.lt.1 e.symm), h.rs.wr.grown hg (fun e => hne _ h.lt.2 e.symm), h.rs.hat, h.rs.hs⟩, Acc.push hown h.ac hm hx hv h.tt.size hO hg hat, h.tt.trans (Touch.of_grown (F := fun k => v.ownBlock = some k) hg fun k e => e) fun x hx e => absurd e (hne x hx), h.lt⟩
theorem own_at {n : Nat} {xs : List Value} {size : Nat} {T : TypeId} (h : Own W T size v n xs) : ∃ ao cp, v = .slice ao n cp := by
  obtain ⟨ao, cp, e, _⟩ := h.form
  exact ⟨ao, cp, e⟩
end
/-- What follows from the list so far. -/
def GGo {α : Type} (p : Rdr α) (lo hi : Int) (s : ByteArray) (at_ : Nat) (e : Int) (m : Nat) (l : List α) (a : Nat) (e1 : Int) : Prop := ∀ x at2 e2, Res (pRep p m) s a e1 x at2 e2 → Res (pMany lo hi p) s at_ e (l ++ x) at2 e2
section
variable {α : Type} {p : Rdr α} {lo hi : Int} {s : ByteArray} {at_ : Nat} {e : Int} {m : Nat} {l : List α} {a a2 : Nat} {e1 e2 : Int} {n : Nat} {x : α}
theorem GGo.start (h : Res (pNum lo hi) s at_ e n a e1) : GGo p lo hi s at_ e n [] a e1 := fun _ _ _ k => res_bind h k
theorem GGo.step (h : GGo p lo hi s at_ e (m + 1) l a e1) (k : Res p s a e1 x a2 e2) : GGo p lo hi s at_ e m (l ++ [x]) a2 e2 := fun y at3 e3 hy => by
  rw [List.append_assoc]
  exact h _ _ _ (res_bind k (res_map hy))
theorem GGo.bad (h : GGo p lo hi s at_ e (m + 1) l a e1) (k : Res p s a e1 x a2 e2) (h2 : e2 ≠ 0) : Res (pMany lo hi p) s at_ e ([] : List α) a2 e2 := ((h.step k) [] a2 e2 (.inl ⟨h2, rfl, rfl⟩)).bad h2
theorem GGo.done (h : GGo p lo hi s at_ e 0 l a e1) : Res (pMany lo hi p) s at_ e l a e1 := by
  have := h [] a e1 (res_pure [])
  rwa [List.append_nil] at this
end
theorem take0 {α : Type} {K : Kd α} {n0 : Nat} {w w' : World} {x : α} {r : K.R} (h : K.holds (free n0) w x r) (hb : Below w.heap.size w w') : K.holds (free n0) w' x r :=
  K.keep h hb.size fun b ⟨k1, k2⟩ k4 => ⟨hb.block b k4, k1, fun i => (World.frozen?_of_block (w := w) (hb.block b k4)).trans (k2 i)⟩
end Go.Proofs.YtdpjjnbelgaagaaGreatDoor
