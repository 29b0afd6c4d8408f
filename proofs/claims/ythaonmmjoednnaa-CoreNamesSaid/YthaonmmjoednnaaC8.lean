/- Groups: the document's and the program's. Conditions: as each theorem names them. -/
import Derived.Test.YthaonmmjoednnaaC7
import Derived.Test.YthaonmmjoednnaaCS
namespace Go.Proofs.Ythaonmmjoednnaa
open Go.ChangeShapes Go.WideShapes Go.ChangeAt Go.RowKit Go.Maps Go.Deep Go.Shelf Go.Sort
set_option maxRecDepth 100000

def grpOne (group : List Int) (out : List Int) (n : Int) : List Int := if 0 ≤ n ∧ n < group.length ∧ 0 ≤ group.getD n.toNat 0 then putE out (group.getD n.toNat 0) else out
def groupsE (group clauses : List Int) : List Int := clauses.foldl (grpOne group) []
theorem groupsE_succ (group : List Int) {l : List Int} {k : Nat} (h : k < l.length) : groupsE group (l.take (k + 1)) = grpOne group (groupsE group (l.take k)) l[k] := by
  unfold groupsE
  rw [List.take_succ_eq_append_getElem h, List.foldl_append]
  rfl
theorem grp_fold (group : List Int) : ∀ (l out : List Int), out.Pairwise (· < ·) → (l.foldl (grpOne group) out).Pairwise (· < ·) ∧ (l.foldl (grpOne group) out).length ≤ out.length + l.length := by
  intro l
  induction l with
  | nil => exact fun out h => ⟨h, Nat.le_refl _⟩
  | cons y l ih =>
    intro out h
    have h2 : (grpOne group out y).Pairwise (· < ·) ∧ (grpOne group out y).length ≤ out.length + 1 := by
      unfold grpOne
      split
      · exact ⟨putE_rise h, putE_len _ _⟩
      · exact ⟨h, Nat.le_succ _⟩
    have h3 := ih _ h2.1
    refine ⟨h3.1, ?_⟩
    have := h3.2
    simp only [List.foldl_cons, List.length_cons]
    omega
theorem groupsE_rise (group l : List Int) : (groupsE group l).Pairwise (· < ·) := (grp_fold group l [] List.Pairwise.nil).1
theorem groupsE_len (group l : List Int) : (groupsE group l).length ≤ l.length := by
  refine Nat.le_trans (grp_fold group l [] List.Pairwise.nil).2 ?_
  simp
/-- What a round's test tells. -/
theorem grp_cases (group : List Int) (n : Int) : (n < 0) ∨ ((group.length : Int) ≤ n ∧ 0 ≤ n) ∨ ∃ (t : Nat) (_ : t < group.length), n = (t : Int) := by
  by_cases h : n < 0
  · exact .inl h
  · by_cases h2 : (group.length : Int) ≤ n
    · exact .inr (.inl ⟨h2, by omega⟩)
    · exact .inr (.inr ⟨n.toNat, by omega, by omega⟩)

abbrev GrpOut (o : List Int) (w : World) (e : Ending) (w' : World) : Prop :=
  ∃ ao' cap', e = .returned (.slice ao' o.length cap') ∧ Ints w' ao' o ∧ Below w.heap.size w w'

set_option maxHeartbeats 2000000 in
theorem rGroups_any (clauses group : List Int) (ac ag : Option Addr) (capc capg : Nat) (w : World) (hC : Ints w ac clauses) (hG : Ints w ag group) (hcl : clauses.length ≤ 100000) (hgl : group.length ≤ 1000000) :
    Calls Try.prog 13 #[.slice ac clauses.length capc, .slice ag group.length capg] w (GrpOut (groupsE group clauses) w) := by
  obtain ⟨o, ho⟩ : ∃ o, o = groupsE group clauses := ⟨_, rfl⟩
  rw [← ho]
  have HC := Lib.hid hC
  have HG := Lib.hid hG
  have HO := Lib.hid ho
  clear hC hG ho
  go_enter Try.func13, Try.ntmps13
  go_wp2_with fail
  go_loopw [5, 6] (fun s i wr => ∃ (k n c : Nat) (a : Option Addr), k ≤ clauses.length ∧ i = .int .i64 k ∧ s = .slice a n c ∧ Hid (n = (groupsE group (clauses.take k)).length ∧ IntsC wr a c (groupsE group (clauses.take k)) ∧ Below w.heap.size w wr)) (fun _ i _ => clauses.length - (intOf i).toNat)
  case atStart => exact ⟨0, 0, 0, none, by omega, rfl, rfl, Lib.hid ⟨rfl, IntsC.nil _, Below.refl _ _⟩⟩
  case round =>
    obtain ⟨k, n, c, a, hk, rfl, rfl, HI⟩ := hrel
    by_cases hlt : k < clauses.length
    · have hki : (k : Int) < (clauses.length : Int) := by omega
      obtain ⟨b, off, e, _, hcells⟩ := HC.out.below HI.out.2.2 (by omega)
      subst e
      have hck := hcells k hlt
      obtain ⟨y, hy⟩ : ∃ y, y = clauses[k] := ⟨_, rfl⟩
      rw [← hy] at hck
      have hnext : groupsE group (clauses.take (k + 1)) = grpOne group (groupsE group (clauses.take k)) y := by rw [groupsE_succ group hlt, hy]
      clear hcells hy
      rcases grp_cases group y with hn | ⟨hn, h0⟩ | ⟨t, ht, rfl⟩
      · have hd : decide (0 ≤ y) = false := by simpa using hn
        have HN := Lib.hid (show groupsE group (clauses.take (k + 1)) = groupsE group (clauses.take k) by rw [hnext]; unfold grpOne; rw [if_neg (by omega)])
        clear hn hnext
        go_wp2_with fail
        go_roundw
        case rel => exact ⟨k + 1, n, c, a, by omega, by go_num, rfl, Lib.hid (by rw [HN.out]; exact HI.out)⟩
        case measure => simp [intOf]; omega
      · have hd : decide (0 ≤ y) = true := by simpa using h0
        have hd2 : decide (y < (group.length : Int)) = false := by simpa using hn
        have HN := Lib.hid (show groupsE group (clauses.take (k + 1)) = groupsE group (clauses.take k) by rw [hnext]; unfold grpOne; rw [if_neg (by omega)])
        clear hn h0 hnext
        go_wp2_with fail
        go_roundw
        case rel => exact ⟨k + 1, n, c, a, by omega, by go_num, rfl, Lib.hid (by rw [HN.out]; exact HI.out)⟩
        case measure => simp [intOf]; omega
      · have hti : (t : Int) < (group.length : Int) := by omega
        obtain ⟨b2, off2, e2, _, hcells2⟩ := HG.out.below HI.out.2.2 (by omega)
        subst e2
        have hct := hcells2 t ht
        obtain ⟨x, hx⟩ : ∃ x, x = group[t] := ⟨_, rfl⟩
        have hgd : group.getD ((t : Int)).toNat 0 = x := by rw [Int.toNat_natCast, List.getD_eq_getElem?_getD, List.getElem?_eq_getElem ht, hx]; rfl
        rw [← hx] at hct
        unfold grpOne at hnext
        rw [hgd] at hnext
        clear hcells2 hx hgd
        by_cases hx0 : 0 ≤ x
        · have hd : decide (0 ≤ x) = true := by simpa using hx0
          rw [if_pos ⟨by omega, hti, hx0⟩] at hnext
          have HPut : Hid (Calls Try.prog 21 #[.slice a n c, .int .i64 x] wr (PutOut (groupsE group (clauses.take (k + 1))) wr)) := Lib.hid (by
            rw [hnext, HI.out.1]
            exact put_any _ x a c wr HI.out.2.1 (by have := groupsE_len group (clauses.take k); rw [List.length_take] at this; omega))
          clear hnext
          go_wp2_with (go_at_call 21; (with_reducible refine HPut.out.mono ?_); rintro e w2 ⟨a2, c2, rfl, hi2, hb2⟩)
          go_roundw
          case rel => exact ⟨k + 1, _, c2, a2, by omega, by go_num, rfl, Lib.hid ⟨rfl, hi2, bel_trans HI.out.2.2 hb2⟩⟩
          case measure => simp [intOf]; omega
        · have hd : decide (0 ≤ x) = false := by simpa using hx0
          rw [if_neg (by omega)] at hnext
          have HN := Lib.hid hnext
          clear hnext hx0
          go_wp2_with fail
          go_roundw
          case rel => exact ⟨k + 1, n, c, a, by omega, by go_num, rfl, Lib.hid (by rw [HN.out]; exact HI.out)⟩
          case measure => simp [intOf]; omega
    · obtain rfl : k = clauses.length := by omega
      have h1 := HI.out
      rw [List.take_length, ← HO.out] at h1
      obtain ⟨hn, h2, h3⟩ := h1
      subst hn
      have HE := Lib.hid (show Ints wr a o ∧ Below w.heap.size w wr from ⟨h2.ints, h3⟩)
      clear h2 h3 HI HO
      go_wp2_with fail
      go_ret
      exact ⟨a, c, rfl, HE.out.1, HE.out.2⟩

/-! ### The program's -/
theorem sortsA (m : Nat) : AnyZI.SortsIn Try.prog sortedA_ren Fence.wide m :=
  ⟨fun blk off cap ss W hH hblk hsz => callsIn_wide.2 (AnyM.slices_Sort_int sortA blk off cap ss W hH hblk hsz),
   fun p cap W => callsIn_wide.2 (AnyM.slices_Sort_int_none sortA p cap W)⟩
/-- How a set's elements read: all alike. -/
def setR (_ : Value) : Option (DataW Unit × List MemPlace) := some (.lit (.bool true), [])
theorem setKey (x : Int) : WideAt.IsKeyLit (.int .i64 x) := by simp [WideAt.IsKeyLit]
theorem wf_of_i64 {x : Int} (h : I64 x) : (Lit.int .i64 x).wf = true := by
  unfold I64 at h
  simp [Lit.wf, IntKind.min, IntKind.max, IntKind.signed, IntKind.bits]
  omega
/-- At bm lies a set of these numbers. -/
def SetAt (w : World) (bm k : Nat) (out : List Int) : Prop := ∃ D : DataW Unit, w.ownsMap Try.prog 3 setR bm k D ∧ ∀ x : Int, x ∈ out ↔ Maps.has D (.int .i64 x) = true
theorem set_put {w' : World} {bm k : Nat} {out : List Int} {D : DataW Unit} {x : Int} (hD : IsMap D) (h : w'.ownsMap Try.prog 3 setR bm (k + 1) (D.put (.int .i64 x) (.lit (.bool true)))) (hm : ∀ y : Int, y ∈ out ↔ Maps.has D (.int .i64 y) = true) : SetAt w' bm (k + 1) (putE out x) := by
  refine ⟨_, h, fun y => ?_⟩
  rw [putE_mem, hm y]
  by_cases hy : y = x
  · subst hy
    rw [has_put_same hD (setKey _)]
    simp
  · rw [has_put_other (by simpa using hy)]
    simp [hy]
theorem set_perm {w : World} {bm k : Nat} {out : List Int} {D : DataW Unit} (hown : w.ownsMap Try.prog 3 setR bm k D) (hm : ∀ y : Int, y ∈ out ↔ Maps.has D (.int .i64 y) = true) (hr : out.Pairwise (· < ·)) : out.Perm (intKeys D) := by
  obtain ⟨es, hD, hpw, _⟩ := hown.entries (int_keyed Try.underlying3)
  obtain ⟨es', hD', hko⟩ := hown.keysOf
  obtain rfl : es = es' := by rw [hD] at hD'; simpa using hD'
  subst hD
  exact perm_intKeys hpw (fun p hp => by obtain ⟨v, hv⟩ := hko p hp; obtain ⟨x, _, hx, _⟩ := Maps.keyOf_i64 Try.underlying3 hv; exact ⟨x, hx⟩) (hr.imp (fun h => by omega)) hm
theorem set_size {w : World} {bm k : Nat} {out : List Int} {D : DataW Unit} (hown : w.ownsMap Try.prog 3 setR bm k D) (hm : ∀ y : Int, y ∈ out ↔ Maps.has D (.int .i64 y) = true) (hr : out.Pairwise (· < ·)) : Maps.size D = out.length := by
  have h := (set_perm hown hm hr).length_eq
  obtain ⟨es, hD, _⟩ := hown.keysOf
  subst hD
  rw [h]
  show es.length = (es.map _).length
  rw [List.length_map]
theorem sort_rise {ss out : List Int} (h : ss.Perm out) (hr : out.Pairwise (· < ·)) : ss.mergeSort leI = out := by
  have tr : ∀ a b c : Int, leI a b = true → leI b c = true → leI a c = true := fun a b c h1 h2 => by simp only [leI, decide_eq_true_eq] at *; exact Int.le_trans h1 h2
  have tt : ∀ a b : Int, (leI a b || leI b a) = true := fun a b => by simp only [leI, Bool.or_eq_true, decide_eq_true_eq]; exact Int.le_total a b
  refine List.Perm.eq_of_pairwise (le := fun a b => leI a b = true) (fun a b _ _ h1 h2 => ?_) (List.pairwise_mergeSort tr tt ss) (hr.imp (fun h => by simp only [leI, decide_eq_true_eq]; omega)) ((List.mergeSort_perm ss leI).trans h)
  simp only [leI, decide_eq_true_eq] at h1 h2
  exact Int.le_antisymm h1 h2
theorem row_ints {w : World} {base n : Nat} {v : Value} {l : List Int} (h : w.ownsRow base 3 1 v n (l.map encZ)) (hl : l.length = n) : ∃ ao cap, v = .slice ao n cap ∧ Ints w ao l := by
  rcases h.2 with ⟨rfl, h0⟩ | ⟨g, cap, cur, rfl, _, hb, h1, h2, h3, h4⟩
  · exact ⟨none, 0, by rw [h0], fun h => by omega⟩
  · refine ⟨_, cap, rfl, fun _ => ⟨g, 0, rfl, (Array.getElem?_eq_some_iff.1 hb).1, fun j hj => ?_⟩⟩
    have hc : w.cell? ⟨g, 0 + j, none⟩ = cur[0 + j]? := cell_of_row w g (0 + j) cur 3 (0, 0) hb
    rw [hc, Nat.zero_add, ← Array.getElem?_toList]
    have h5 : (cur.toList.take (n * 1))[j]? = (l.map encZ)[j]? := by rw [h4]
    rw [List.getElem?_take, if_pos (by omega)] at h5
    rw [h5]
    simp [hj]

set_option maxHeartbeats 4000000 in
theorem cGroups_any (clauses group : List Int) (ac ag : Option Addr) (capc capg : Nat) (w : World) (hC : Ints w ac clauses) (hG : Ints w ag group) (hcl : clauses.length ≤ 100000) (hgl : group.length ≤ 1000000) (hI : ∀ x ∈ group, I64 x) :
    Calls Try.prog 10 #[.slice ac clauses.length capc, .slice ag group.length capg] w (GrpOut (groupsE group clauses) w) := by
  obtain ⟨o, ho⟩ : ∃ o, o = groupsE group clauses := ⟨_, rfl⟩
  rw [← ho]
  have HC := Lib.hid hC
  have HG := Lib.hid hG
  have HO := Lib.hid ho
  have HI64 := Lib.hid hI
  have hmm : ∀ W : World, Sem.run Try.prog (Instr.makeMap 41 none) W = .ok (.map (some W.heap.size)) (W.alloc (.map #[] 0)) := fun W => run_makeMap 41 W
  clear hC hG ho hI
  go_enter Try.func10, Try.ntmps10
  go_wp2_with fail
  obtain ⟨bm, hbm⟩ : ∃ bm, bm = w.heap.size := ⟨_, rfl⟩
  have h0 : SetAt (w.alloc (.map #[] 0)) bm 0 [] := ⟨.map [], by rw [hbm]; exact World.ownsMap_made w _ _ _, fun x => by simp [Maps.has]⟩
  rw [← hbm]
  have HB0 := Lib.hid (show w.heap.size ≤ bm by omega)
  have HS0 := Lib.hid h0
  clear hbm h0 hmm
  go_loopw [11] (fun i wr => ∃ k : Nat, k ≤ clauses.length ∧ i = .int .i64 k ∧ Hid (SetAt wr bm k (groupsE group (clauses.take k))) ∧ Hid (Below w.heap.size w wr)) (fun i _ => clauses.length - (intOf i).toNat)
  case atStart => exact ⟨0, by omega, rfl, HS0, Lib.hid ((Below.refl _ _).alloc (Nat.le_refl _) _)⟩
  case round =>
    obtain ⟨k, hk, rfl, HS, HB⟩ := hrel
    by_cases hlt : k < clauses.length
    · have hki : (k : Int) < (clauses.length : Int) := by omega
      obtain ⟨b, off, e, _, hcells⟩ := HC.out.below HB.out (by omega)
      subst e
      have hck := hcells k hlt
      obtain ⟨y, hy⟩ : ∃ y, y = clauses[k] := ⟨_, rfl⟩
      rw [← hy] at hck
      have hnext : groupsE group (clauses.take (k + 1)) = grpOne group (groupsE group (clauses.take k)) y := by rw [groupsE_succ group hlt, hy]
      clear hcells hy
      have HSt := Lib.hid (show groupsE group (clauses.take (k + 1)) = groupsE group (clauses.take k) → SetAt wr bm (k + 1) (groupsE group (clauses.take (k + 1))) from fun e => by
        obtain ⟨D, h1, h2⟩ := HS.out
        rw [e]
        exact ⟨D, h1.mono (Nat.le_succ _), h2⟩)
      rcases grp_cases group y with hn | ⟨hn, h0⟩ | ⟨t, ht, rfl⟩
      · have hd : decide (0 ≤ y) = false := by simpa using hn
        have HN := Lib.hid (show groupsE group (clauses.take (k + 1)) = groupsE group (clauses.take k) by rw [hnext]; unfold grpOne; rw [if_neg (by omega)])
        clear hn hnext
        go_wp2_with fail
        go_roundw
        case rel => exact ⟨k + 1, by omega, by go_num, Lib.hid (HSt.out HN.out), HB⟩
        case measure => simp [intOf]; omega
      · have hd : decide (0 ≤ y) = true := by simpa using h0
        have hd2 : decide (y < (group.length : Int)) = false := by simpa using hn
        have HN := Lib.hid (show groupsE group (clauses.take (k + 1)) = groupsE group (clauses.take k) by rw [hnext]; unfold grpOne; rw [if_neg (by omega)])
        clear hn h0 hnext
        go_wp2_with fail
        go_roundw
        case rel => exact ⟨k + 1, by omega, by go_num, Lib.hid (HSt.out HN.out), HB⟩
        case measure => simp [intOf]; omega
      · have hti : (t : Int) < (group.length : Int) := by omega
        obtain ⟨b2, off2, e2, _, hcells2⟩ := HG.out.below HB.out (by omega)
        subst e2
        have hct := hcells2 t ht
        obtain ⟨x, hx⟩ : ∃ x, x = group[t] := ⟨_, rfl⟩
        have hgd : group.getD ((t : Int)).toNat 0 = x := by rw [Int.toNat_natCast, List.getD_eq_getElem?_getD, List.getElem?_eq_getElem ht, hx]; rfl
        have hwf : (Lit.int .i64 x).wf = true := wf_of_i64 (by rw [hx]; exact HI64.out _ (List.getElem_mem ht))
        rw [← hx] at hct
        unfold grpOne at hnext
        rw [hgd] at hnext
        clear hcells2 hx hgd
        by_cases hx0 : 0 ≤ x
        · have hd : decide (0 ≤ x) = true := by simpa using hx0
          rw [if_pos ⟨by omega, hti, hx0⟩] at hnext
          have HN := Lib.hid hnext
          obtain ⟨D, hown, hm⟩ := HS.out
          have HM := Lib.hid hm
          have hD : IsMap D := by
            obtain ⟨es, clock, _, _, _, hD⟩ := hown
            exact ⟨_, hD⟩
          have hkey : keyOf Try.prog 3 (.int .i64 x) = some (.int .i64 x) := keyOf_int_mk Try.underlying3 hwf
          have HKy := Lib.hid hkey
          clear hnext hm hwf hkey
          go_wp2_with (first
            | (at_mapUpdate; refine wpList_mapUpdate_own _ rfl (.tmp 30) (.tmp 34) (.tmp 35) 41 rfl 3 42 (int_keyed Try.underlying3) Try.underlying41 setR bm k D rfl hown (by simp only [maxLen]; omega) (.int .i64 x) (.agg #[]) (.int .i64 x) rfl rfl HKy.out (.lit (.bool true)) [] rfl ?_; intro w2 hown2 hg2)
            | fail)
          have HS2 := Lib.hid (set_put hD hown2 HM.out)
          have HB2 := Lib.hid (HB.out.grown hg2 HB.out.size fun k e => by injection e with e; rw [← e]; exact HB0.out)
          clear hown2 hg2 hown hD
          go_wp2_with fail
          go_roundw
          case rel => exact ⟨k + 1, by omega, by go_num, by rw [HN.out]; exact HS2, HB2⟩
          case measure => simp [intOf]; omega
        · have hd : decide (0 ≤ x) = false := by simpa using hx0
          rw [if_neg (by omega)] at hnext
          have HN := Lib.hid hnext
          clear hnext hx0
          go_wp2_with fail
          go_roundw
          case rel => exact ⟨k + 1, by omega, by go_num, Lib.hid (HSt.out HN.out), HB⟩
          case measure => simp [intOf]; omega
    · obtain ⟨n, hn⟩ : ∃ n, n = k := ⟨_, rfl⟩
      obtain rfl : k = clauses.length := by omega
      obtain ⟨D, hown, hm⟩ := HS.out
      rw [List.take_length, ← HO.out] at hm
      have hrise : o.Pairwise (· < ·) := by rw [HO.out]; exact groupsE_rise group clauses
      have hsz : Maps.size D = o.length := set_size hown hm hrise
      have hlo : o.length ≤ 100000 := by rw [HO.out]; exact Nat.le_trans (groupsE_len group clauses) hcl
      rw [← hn] at hown
      by_cases h0 : o = []
      · subst h0
        have hz : Maps.size D = 0 := hsz
        clear hsz hm hrise hn
        go_wp2_with (first
          | (at_len; refine wpList_len_own _ rfl _ 41 rfl 3 42 Try.underlying41 setR bm n D rfl hown ?_)
          | fail)
        go_ret
        exact ⟨none, 0, rfl, fun h => absurd h (Nat.lt_irrefl _), HB.out⟩
      · have h1 : 0 < o.length := List.length_pos_iff.2 h0
        have hperm := set_perm hown hm hrise
        have hz : ((Maps.size D : Int) == 0) = false := by rw [hsz]; simp [h0]
        have hbl := hown.lt
        have hown2 : (wr.alloc (.cells #[.map (some bm)] 41)).ownsMap Try.prog 3 setR bm n D := hown.kept (row := none) ⟨rfl, rfl, rfl, by simp, fun k hk _ => Below.heap_alloc _ _ _ hk⟩ (by simp)
        have hseq : SeqGives Fence.wide 2 Try.prog 27 #[.pointer (some ⟨wr.heap.size, 0, none⟩)] encZ (fun ss => ss.Perm (intKeys D)) (Maps.size D) (wr.alloc (.cells #[.map (some bm)] 41)) :=
          AnyZI.keys_gives (ρ := keysA_ren) { keysA with } Fence.wide _ trivial rfl (by omega) wr.heap.size bm n D _ (by simp) (by simp) hown2
        have cK : Calls Try.prog 19 #[.map (some bm)] wr fun e w' => e = .returned (.func (.func 27) #[] #[.pointer (some ⟨wr.heap.size, 0, none⟩)]) ∧ w' = wr.alloc (.cells #[.map (some bm)] 41) := callsIn_wide.1 (AnyZI.keys_in keysA Fence.wide 5 trivial rfl (some bm) wr)
        have cS := callsIn_wide.1 (AnyZI.sorted_in sortedA Fence.wide 5 trivial trivial trivial trivial rfl (by omega) (sortsA _) (enters_of Try.func26 (by kernel_rfl) rfl) 27 #[.pointer (some ⟨wr.heap.size, 0, none⟩)] trivial (enters_of Try.func27 (by kernel_rfl) rfl) _ _ (by rw [hsz]; simp only [maxLen]; omega) (by rw [hsz]; omega) _ hseq)
        change Calls Try.prog 18 _ _ _ at cS
        have HK := Lib.hid cK
        have HS := Lib.hid cS
        have HP := Lib.hid (show o.Perm (intKeys D) ∧ o.Pairwise (· < ·) from ⟨hperm, hrise⟩)
        clear cK cS hseq hown2 hperm hrise hsz hm h0 hn hbl
        go_wp2_with (first
          | (at_len; refine wpList_len_own _ rfl _ 41 rfl 3 42 Try.underlying41 setR bm n D rfl hown ?_)
          | (go_at_call 19; (with_reducible refine HK.out.mono ?_); rintro e w2 ⟨rfl, rfl⟩)
          | (go_at_call 18; (with_reducible refine HS.out.mono ?_); rintro e w3 ⟨v, ss, rfl, hss, hrow, _, hb3⟩)
          | fail)
        go_ret
        have hso := hss.trans HP.out.1.symm
        have hms := sort_rise hso HP.out.2
        unfold leI at hms
        rw [hms] at hrow
        obtain ⟨a3, c3, rfl, hi3⟩ := row_ints hrow hso.length_eq.symm
        rw [hso.length_eq]
        exact ⟨a3, c3, rfl, hi3, HB.out.trans (((Below.refl _ wr).alloc (Nat.le_refl _) _).mono HB.out.size |>.trans (hb3.mono (by simp; exact Nat.le_succ_of_le HB.out.size)))⟩

end Go.Proofs.Ythaonmmjoednnaa
