/- The library's sort, keys and sorted at this dump: tables of numbers, laid by the shelf's tool in plain words. Conditions: none. -/
import Derived.Shelf.SlIterI.Nil
import Derived.Shelf.SortM.Plain
import Derived.Shelf.SortM.SortNone
import Derived.Ground.GgzProg
import Derived.Ground.SlgmProg
import Derived.Test.YteadaiomeccanaaProg
import Derived.Test.YteadaiomeccanaaGp
namespace Go.Proofs.Yteadaiomeccanaa
open Go.Shelf
def keysA_ren : Go.Shelf.Ren := ⟨fun | 7 => 23 | 10 => 45 | n => n, fun | 23 => 58 | 26 => 3 | 3 => 59 | 28 => 62 | 0 => 0 | 27 => 61 | 33 => 81 | 4 => 4 | n => n, fun | n => n⟩
theorem keysA : Go.Proofs.SlLaysZI.n7 Try.prog keysA_ren := {
  mixed := by kernel_rfl
  f7 := ⟨Try.f23.name, by decide, Try.func23.trans (congrArg some (by kernel_rfl))⟩
  f10 := ⟨Try.f45.name, by decide, Try.func45.trans (congrArg some (by kernel_rfl))⟩
  t0 := Try.underlying0
  a0 := Try.isAgg0
  z0 := Try.sizeOf0
  v0 := Try.zeroValue0
  t4 := Try.underlying4
  a4 := Try.isAgg4
  z4 := Try.sizeOf4
  v4 := Try.zeroValue4
  t23 := Try.underlying58
  a23 := Try.isAgg58
  z23 := Try.sizeOf58
  v23 := Try.zeroValue58
  t26 := Try.underlying3
  a26 := Try.isAgg3
  z26 := Try.sizeOf3
  v26 := Try.zeroValue3
  t27 := Try.underlying61
  a27 := Try.isAgg61
  z27 := Try.sizeOf61
  v27 := Try.zeroValue61
  t28 := Try.underlying62
  a28 := Try.isAgg62
  z28 := Try.sizeOf62
  v28 := Try.zeroValue62
  t33 := Try.underlying81
  a33 := Try.isAgg81
  z33 := Try.sizeOf81
  v33 := Try.zeroValue81 }
def sortedA_ren : Go.Shelf.Ren := ⟨fun | 6 => 22 | 8 => 43 | 9 => 44 | 11 => 60 | 13 => 62 | 12 => 61 | 23 => 79 | 24 => 80 | 14 => 70 | 15 => 71 | 16 => 72 | 17 => 73 | 18 => 74 | 19 => 75 | 20 => 76 | 21 => 77 | 22 => 78 | 25 => 83 | 26 => 84 | 27 => 85 | 28 => 86 | 29 => 87 | 30 => 88 | 31 => 89 | n => n, fun | 26 => 3 | 28 => 62 | 24 => 23 | 0 => 0 | 3 => 3 | 37 => 99 | 48 => 113 | 50 => 115 | 4 => 4 | 40 => 106 | 39 => 105 | 45 => 79 | 5 => 5 | 9 => 9 | 51 => 120 | 55 => 124 | 57 => 126 | 58 => 45 | 33 => 81 | n => n, fun | n => n⟩
theorem sortedA : Go.Proofs.SlLaysZI.n6 Try.prog sortedA_ren := {
  mixed := by kernel_rfl
  f6 := ⟨Try.f22.name, by decide, Try.func22.trans (congrArg some (by kernel_rfl))⟩
  f8 := ⟨Try.f43.name, by decide, Try.func43.trans (congrArg some (by kernel_rfl))⟩
  f11 := ⟨Try.f60.name, by decide, Try.func60.trans (congrArg some (by kernel_rfl))⟩
  t0 := Try.underlying0
  a0 := Try.isAgg0
  z0 := Try.sizeOf0
  v0 := Try.zeroValue0
  t24 := Try.underlying23
  a24 := Try.isAgg23
  z24 := Try.sizeOf23
  v24 := Try.zeroValue23
  t26 := Try.underlying3
  a26 := Try.isAgg3
  z26 := Try.sizeOf3
  v26 := Try.zeroValue3
  t28 := Try.underlying62
  a28 := Try.isAgg62
  z28 := Try.sizeOf62
  v28 := Try.zeroValue62
  i26 := by kernel_rfl }
def sortA_ren : Go.Shelf.Ren := ⟨fun | 5 => 44 | 8 => 62 | 7 => 61 | 19 => 79 | 20 => 80 | 10 => 70 | 11 => 71 | 12 => 72 | 13 => 73 | 14 => 74 | 15 => 75 | 16 => 76 | 17 => 77 | 18 => 78 | 30 => 83 | 31 => 84 | 32 => 85 | 33 => 86 | 34 => 87 | 35 => 88 | 40 => 89 | n => n, fun | 23 => 23 | 25 => 3 | 3 => 3 | 32 => 99 | 22 => 23 | 0 => 0 | 44 => 113 | 46 => 115 | 4 => 4 | 36 => 106 | 35 => 105 | 41 => 79 | 5 => 5 | 9 => 9 | 53 => 120 | 57 => 124 | 63 => 126 | 64 => 45 | n => n, fun | n => n⟩
theorem sortA : Go.Proofs.SlLaysM.n5 Try.prog sortA_ren := {
  mixed := by kernel_rfl
  f5 := ⟨Try.f44.name, by decide, Try.func44.trans (congrArg some (by kernel_rfl))⟩
  f7 := ⟨Try.f61.name, by decide, Try.func61.trans (congrArg some (by kernel_rfl))⟩
  f8 := Try.func62.trans (congrArg some (by kernel_rfl))
  f10 := ⟨Try.f70.name, by decide, Try.func70.trans (congrArg some (by kernel_rfl))⟩
  f11 := ⟨Try.f71.name, by decide, Try.func71.trans (congrArg some (by kernel_rfl))⟩
  f12 := ⟨Try.f72.name, by decide, Try.func72.trans (congrArg some (by kernel_rfl))⟩
  f13 := ⟨Try.f73.name, by decide, Try.func73.trans (congrArg some (by kernel_rfl))⟩
  f14 := ⟨Try.f74.name, by decide, Try.func74.trans (congrArg some (by kernel_rfl))⟩
  f15 := ⟨Try.f75.name, by decide, Try.func75.trans (congrArg some (by kernel_rfl))⟩
  f16 := ⟨Try.f76.name, by decide, Try.func76.trans (congrArg some (by kernel_rfl))⟩
  f17 := ⟨Try.f77.name, by decide, Try.func77.trans (congrArg some (by kernel_rfl))⟩
  f18 := ⟨Try.f78.name, by decide, Try.func78.trans (congrArg some (by kernel_rfl))⟩
  f19 := Try.func79.trans (congrArg some (by kernel_rfl))
  f20 := Try.func80.trans (congrArg some (by kernel_rfl))
  f30 := ⟨Try.f83.name, by decide, Try.func83.trans (congrArg some (by kernel_rfl))⟩
  f31 := Try.func84.trans (congrArg some (by kernel_rfl))
  f32 := Try.func85.trans (congrArg some (by kernel_rfl))
  f33 := ⟨Try.f86.name, by decide, Try.func86.trans (congrArg some (by kernel_rfl))⟩
  f34 := ⟨Try.f87.name, by decide, Try.func87.trans (congrArg some (by kernel_rfl))⟩
  f35 := ⟨Try.f88.name, by decide, Try.func88.trans (congrArg some (by kernel_rfl))⟩
  f40 := ⟨Try.f89.name, by decide, Try.func89.trans (congrArg some (by kernel_rfl))⟩
  t0 := Try.underlying0
  a0 := Try.isAgg0
  z0 := Try.sizeOf0
  v0 := Try.zeroValue0
  t3 := Try.underlying3
  a3 := Try.isAgg3
  z3 := Try.sizeOf3
  v3 := Try.zeroValue3
  t4 := Try.underlying4
  a4 := Try.isAgg4
  z4 := Try.sizeOf4
  v4 := Try.zeroValue4
  t5 := Try.underlying5
  a5 := Try.isAgg5
  z5 := Try.sizeOf5
  v5 := Try.zeroValue5
  t9 := Try.underlying9
  a9 := Try.isAgg9
  z9 := Try.sizeOf9
  v9 := Try.zeroValue9
  t22 := Try.underlying23
  a22 := Try.isAgg23
  z22 := Try.sizeOf23
  v22 := Try.zeroValue23
  t23 := Try.underlying23
  a23 := Try.isAgg23
  z23 := Try.sizeOf23
  v23 := Try.zeroValue23
  t25 := Try.underlying3
  a25 := Try.isAgg3
  z25 := Try.sizeOf3
  v25 := Try.zeroValue3
  t32 := Try.underlying99
  a32 := Try.isAgg99
  z32 := Try.sizeOf99
  v32 := Try.zeroValue99
  t35 := Try.underlying105
  a35 := Try.isAgg105
  z35 := Try.sizeOf105
  v35 := Try.zeroValue105
  t36 := Try.underlying106
  a36 := Try.isAgg106
  z36 := Try.sizeOf106
  v36 := Try.zeroValue106
  t41 := Try.underlying79
  a41 := Try.isAgg79
  z41 := Try.sizeOf79
  v41 := Try.zeroValue79
  t44 := Try.underlying113
  a44 := Try.isAgg113
  z44 := Try.sizeOf113
  v44 := Try.zeroValue113
  t46 := Try.underlying115
  a46 := Try.isAgg115
  z46 := Try.sizeOf115
  v46 := Try.zeroValue115
  t53 := Try.underlying120
  a53 := Try.isAgg120
  z53 := Try.sizeOf120
  v53 := Try.zeroValue120
  t57 := Try.underlying124
  a57 := Try.isAgg124
  z57 := Try.sizeOf124
  v57 := Try.zeroValue124
  t63 := Try.underlying126
  a63 := Try.isAgg126
  z63 := Try.sizeOf126
  v63 := Try.zeroValue126
  t64 := Try.underlying45
  a64 := Try.isAgg45
  z64 := Try.sizeOf45
  v64 := Try.zeroValue45 }
end Go.Proofs.Yteadaiomeccanaa

namespace Go.Proofs.Yteadaiomeccanaa
open Go.ChangeShapes Go.WideShapes Go.ChangeAt Go.RowKit Go.Maps Go.Deep Go.Shelf Go.Sort
set_option maxRecDepth 100000

def grpOne (group : List Int) (out : List Int) (n : Int) : List Int := if 0 ≤ n ∧ n < group.length ∧ 0 ≤ group.getD n.toNat 0 then putE out (group.getD n.toNat 0) else out
def groupsE (group clauses : List Int) : List Int := clauses.foldl (grpOne group) []
theorem groupsE_succ (group : List Int) {l : List Int} {k : Nat} (h : k < l.length) : groupsE group (l.take (k + 1)) = grpOne group (groupsE group (l.take k)) l[k] := by
  unfold groupsE
  rw [List.take_succ_eq_append_getElem h, List.foldl_append]
  rfl
theorem grp_fold (group : List Int) : ∀ (l out : List Int), out.Pairwise (· < ·) → (l.foldl (grpOne group) out).Pairwise (· < ·) ∧ (l.foldl (grpOne group) out).length ≤ out.length + l.length := by
  intro l
  induction l with
  | nil => exact fun out h => ⟨h, Nat.le_refl _⟩
  | cons y l ih =>
    intro out h
    have h2 : (grpOne group out y).Pairwise (· < ·) ∧ (grpOne group out y).length ≤ out.length + 1 := by
      unfold grpOne
      split
      · exact ⟨putE_rise h, putE_len _ _⟩
      · exact ⟨h, Nat.le_succ _⟩
    have h3 := ih _ h2.1
    refine ⟨h3.1, ?_⟩
    have := h3.2
    simp only [List.foldl_cons, List.length_cons]
    omega
theorem groupsE_rise (group l : List Int) : (groupsE group l).Pairwise (· < ·) := (grp_fold group l [] List.Pairwise.nil).1
theorem groupsE_len (group l : List Int) : (groupsE group l).length ≤ l.length := by
  refine Nat.le_trans (grp_fold group l [] List.Pairwise.nil).2 ?_
  simp
/-- What a round's test tells. -/
theorem grp_cases (group : List Int) (n : Int) : (n < 0) ∨ ((group.length : Int) ≤ n ∧ 0 ≤ n) ∨ ∃ (t : Nat) (_ : t < group.length), n = (t : Int) := by
  by_cases h : n < 0
  · exact .inl h
  · by_cases h2 : (group.length : Int) ≤ n
    · exact .inr (.inl ⟨h2, by omega⟩)
    · exact .inr (.inr ⟨n.toNat, by omega, by omega⟩)

abbrev GrpOut (o : List Int) (w : World) (e : Ending) (w' : World) : Prop :=
  ∃ ao' cap', e = .returned (.slice ao' o.length cap') ∧ Ints w' ao' o ∧ Below w.heap.size w w'

/-! ### The program's -/
theorem sortsA (m : Nat) : AnyZI.SortsIn Try.prog sortedA_ren Fence.wide m :=
  ⟨fun blk off cap ss W hH hblk hsz => callsIn_wide.2 (AnyM.slices_Sort_int sortA blk off cap ss W hH hblk hsz),
   fun p cap W => callsIn_wide.2 (AnyM.slices_Sort_int_none sortA p cap W)⟩
/-- How a set's elements read: all alike. -/
def setR (_ : Value) : Option (DataW Unit × List MemPlace) := some (.lit (.bool true), [])
theorem setKey (x : Int) : WideAt.IsKeyLit (.int .i64 x) := by simp [WideAt.IsKeyLit]
theorem wf_of_i64 {x : Int} (h : I64 x) : (Lit.int .i64 x).wf = true := by
  unfold I64 at h
  simp [Lit.wf, IntKind.min, IntKind.max, IntKind.signed, IntKind.bits]
  omega
/-- At bm lies a set of these numbers. -/
def SetAt (w : World) (bm k : Nat) (out : List Int) : Prop := ∃ D : DataW Unit, w.ownsMap Try.prog 3 setR bm k D ∧ ∀ x : Int, x ∈ out ↔ Maps.has D (.int .i64 x) = true
theorem cset_put {w' : World} {bm k : Nat} {out : List Int} {D : DataW Unit} {x : Int} (hD : IsMap D) (h : w'.ownsMap Try.prog 3 setR bm (k + 1) (D.put (.int .i64 x) (.lit (.bool true)))) (hm : ∀ y : Int, y ∈ out ↔ Maps.has D (.int .i64 y) = true) : SetAt w' bm (k + 1) (putE out x) := by
  refine ⟨_, h, fun y => ?_⟩
  rw [putE_mem, hm y]
  by_cases hy : y = x
  · subst hy
    rw [has_put_same hD (setKey _)]
    simp
  · rw [has_put_other (by simpa using hy)]
    simp [hy]
theorem cset_perm {w : World} {bm k : Nat} {out : List Int} {D : DataW Unit} (hown : w.ownsMap Try.prog 3 setR bm k D) (hm : ∀ y : Int, y ∈ out ↔ Maps.has D (.int .i64 y) = true) (hr : out.Pairwise (· < ·)) : out.Perm (intKeys D) := by
  obtain ⟨es, hD, hpw, _⟩ := hown.entries (int_keyed Try.underlying3)
  obtain ⟨es', hD', hko⟩ := hown.keysOf
  obtain rfl : es = es' := by rw [hD] at hD'; simpa using hD'
  subst hD
  exact perm_intKeys hpw (fun p hp => by obtain ⟨v, hv⟩ := hko p hp; obtain ⟨x, _, hx, _⟩ := Maps.keyOf_i64 Try.underlying3 hv; exact ⟨x, hx⟩) (hr.imp (fun h => by omega)) hm
theorem cset_size {w : World} {bm k : Nat} {out : List Int} {D : DataW Unit} (hown : w.ownsMap Try.prog 3 setR bm k D) (hm : ∀ y : Int, y ∈ out ↔ Maps.has D (.int .i64 y) = true) (hr : out.Pairwise (· < ·)) : Maps.size D = out.length := by
  have h := (cset_perm hown hm hr).length_eq
  obtain ⟨es, hD, _⟩ := hown.keysOf
  subst hD
  rw [h]
  show es.length = (es.map _).length
  rw [List.length_map]
theorem sort_rise {ss out : List Int} (h : ss.Perm out) (hr : out.Pairwise (· < ·)) : ss.mergeSort leI = out := by
  have tr : ∀ a b c : Int, leI a b = true → leI b c = true → leI a c = true := fun a b c h1 h2 => by simp only [leI, decide_eq_true_eq] at *; exact Int.le_trans h1 h2
  have tt : ∀ a b : Int, (leI a b || leI b a) = true := fun a b => by simp only [leI, Bool.or_eq_true, decide_eq_true_eq]; exact Int.le_total a b
  refine List.Perm.eq_of_pairwise (le := fun a b => leI a b = true) (fun a b _ _ h1 h2 => ?_) (List.pairwise_mergeSort tr tt ss) (hr.imp (fun h => by simp only [leI, decide_eq_true_eq]; omega)) ((List.mergeSort_perm ss leI).trans h)
  simp only [leI, decide_eq_true_eq] at h1 h2
  exact Int.le_antisymm h1 h2
theorem row_ints {w : World} {base n : Nat} {v : Value} {l : List Int} (h : w.ownsRow base 3 1 v n (l.map encZ)) (hl : l.length = n) : ∃ ao cap, v = .slice ao n cap ∧ Ints w ao l := by
  rcases h.2 with ⟨rfl, h0⟩ | ⟨g, cap, cur, rfl, _, hb, h1, h2, h3, h4⟩
  · exact ⟨none, 0, by rw [h0], fun h => by omega⟩
  · refine ⟨_, cap, rfl, fun _ => ⟨g, 0, rfl, (Array.getElem?_eq_some_iff.1 hb).1, fun j hj => ?_⟩⟩
    have hc : w.cell? ⟨g, 0 + j, none⟩ = cur[0 + j]? := cell_of_row w g (0 + j) cur 3 (0, 0) hb
    rw [hc, Nat.zero_add, ← Array.getElem?_toList]
    have h5 : (cur.toList.take (n * 1))[j]? = (l.map encZ)[j]? := by rw [h4]
    rw [List.getElem?_take, if_pos (by omega)] at h5
    rw [h5]
    simp [hj]

set_option maxHeartbeats 4000000 in
theorem cGroups_any (clauses group : List Int) (ac ag : Option Addr) (capc capg : Nat) (w : World) (hC : Ints w ac clauses) (hG : Ints w ag group) (hcl : clauses.length ≤ 100000) (hgl : group.length ≤ 1000000) (hI : ∀ x ∈ group, I64 x) :
    Calls Try.prog 10 #[.slice ac clauses.length capc, .slice ag group.length capg] w (GrpOut (groupsE group clauses) w) := by
  obtain ⟨o, ho⟩ : ∃ o, o = groupsE group clauses := ⟨_, rfl⟩
  rw [← ho]
  have HC := Lib.hid hC
  have HG := Lib.hid hG
  have HO := Lib.hid ho
  have HI64 := Lib.hid hI
  have hmm : ∀ W : World, Sem.run Try.prog (Instr.makeMap 58 none) W = .ok (.map (some W.heap.size)) (W.alloc (.map #[] 0)) := fun W => run_makeMap 58 W
  clear hC hG ho hI
  go_enter Try.func10, Try.ntmps10
  go_wp2_with fail
  obtain ⟨bm, hbm⟩ : ∃ bm, bm = w.heap.size := ⟨_, rfl⟩
  have h0 : SetAt (w.alloc (.map #[] 0)) bm 0 [] := ⟨.map [], by rw [hbm]; exact World.ownsMap_made w _ _ _, fun x => by simp [Maps.has]⟩
  rw [← hbm]
  have HB0 := Lib.hid (show w.heap.size ≤ bm by omega)
  have HS0 := Lib.hid h0
  clear hbm h0 hmm
  go_loopw [11] (fun i wr => ∃ k : Nat, k ≤ clauses.length ∧ i = .int .i64 k ∧ Hid (SetAt wr bm k (groupsE group (clauses.take k))) ∧ Hid (Below w.heap.size w wr)) (fun i _ => clauses.length - (intOf i).toNat)
  case atStart => exact ⟨0, by omega, rfl, HS0, Lib.hid ((Below.refl _ _).alloc (Nat.le_refl _) _)⟩
  case round =>
    obtain ⟨k, hk, rfl, HS, HB⟩ := hrel
    by_cases hlt : k < clauses.length
    · have hki : (k : Int) < (clauses.length : Int) := by omega
      obtain ⟨b, off, e, _, hcells⟩ := HC.out.below HB.out (by omega)
      subst e
      have hck := hcells k hlt
      obtain ⟨y, hy⟩ : ∃ y, y = clauses[k] := ⟨_, rfl⟩
      rw [← hy] at hck
      have hnext : groupsE group (clauses.take (k + 1)) = grpOne group (groupsE group (clauses.take k)) y := by rw [groupsE_succ group hlt, hy]
      clear hcells hy
      have HSt := Lib.hid (show groupsE group (clauses.take (k + 1)) = groupsE group (clauses.take k) → SetAt wr bm (k + 1) (groupsE group (clauses.take (k + 1))) from fun e => by
        obtain ⟨D, h1, h2⟩ := HS.out
        rw [e]
        exact ⟨D, h1.mono (Nat.le_succ _), h2⟩)
      rcases grp_cases group y with hn | ⟨hn, h0⟩ | ⟨t, ht, rfl⟩
      · have hd : decide (0 ≤ y) = false := by simpa using hn
        have HN := Lib.hid (show groupsE group (clauses.take (k + 1)) = groupsE group (clauses.take k) by rw [hnext]; unfold grpOne; rw [if_neg (by omega)])
        clear hn hnext
        go_wp2_with fail
        go_roundw
        case rel => exact ⟨k + 1, by omega, by go_num, Lib.hid (HSt.out HN.out), HB⟩
        case measure => simp [intOf]; omega
      · have hd : decide (0 ≤ y) = true := by simpa using h0
        have hd2 : decide (y < (group.length : Int)) = false := by simpa using hn
        have HN := Lib.hid (show groupsE group (clauses.take (k + 1)) = groupsE group (clauses.take k) by rw [hnext]; unfold grpOne; rw [if_neg (by omega)])
        clear hn h0 hnext
        go_wp2_with fail
        go_roundw
        case rel => exact ⟨k + 1, by omega, by go_num, Lib.hid (HSt.out HN.out), HB⟩
        case measure => simp [intOf]; omega
      · have hti : (t : Int) < (group.length : Int) := by omega
        obtain ⟨b2, off2, e2, _, hcells2⟩ := HG.out.below HB.out (by omega)
        subst e2
        have hct := hcells2 t ht
        obtain ⟨x, hx⟩ : ∃ x, x = group[t] := ⟨_, rfl⟩
        have hgd : group.getD ((t : Int)).toNat 0 = x := by rw [Int.toNat_natCast, List.getD_eq_getElem?_getD, List.getElem?_eq_getElem ht, hx]; rfl
        have hwf : (Lit.int .i64 x).wf = true := wf_of_i64 (by rw [hx]; exact HI64.out _ (List.getElem_mem ht))
        rw [← hx] at hct
        unfold grpOne at hnext
        rw [hgd] at hnext
        clear hcells2 hx hgd
        by_cases hx0 : 0 ≤ x
        · have hd : decide (0 ≤ x) = true := by simpa using hx0
          rw [if_pos ⟨by omega, hti, hx0⟩] at hnext
          have HN := Lib.hid hnext
          obtain ⟨D, hown, hm⟩ := HS.out
          have HM := Lib.hid hm
          have hD : IsMap D := by
            obtain ⟨es, clock, _, _, _, hD⟩ := hown
            exact ⟨_, hD⟩
          have hkey : keyOf Try.prog 3 (.int .i64 x) = some (.int .i64 x) := keyOf_int_mk Try.underlying3 hwf
          have HKy := Lib.hid hkey
          clear hnext hm hwf hkey
          go_wp2_with (first
            | (at_mapUpdate; refine wpList_mapUpdate_own _ rfl (.tmp 30) (.tmp 34) (.tmp 35) 58 rfl 3 59 (int_keyed Try.underlying3) Try.underlying58 setR bm k D rfl hown (by simp only [maxLen]; omega) (.int .i64 x) (.agg #[]) (.int .i64 x) rfl rfl HKy.out (.lit (.bool true)) [] rfl ?_; intro w2 hown2 hg2)
            | fail)
          have HS2 := Lib.hid (cset_put hD hown2 HM.out)
          have HB2 := Lib.hid (HB.out.grown hg2 HB.out.size fun k e => by injection e with e; rw [← e]; exact HB0.out)
          clear hown2 hg2 hown hD
          go_wp2_with fail
          go_roundw
          case rel => exact ⟨k + 1, by omega, by go_num, by rw [HN.out]; exact HS2, HB2⟩
          case measure => simp [intOf]; omega
        · have hd : decide (0 ≤ x) = false := by simpa using hx0
          rw [if_neg (by omega)] at hnext
          have HN := Lib.hid hnext
          clear hnext hx0
          go_wp2_with fail
          go_roundw
          case rel => exact ⟨k + 1, by omega, by go_num, Lib.hid (HSt.out HN.out), HB⟩
          case measure => simp [intOf]; omega
    · obtain ⟨n, hn⟩ : ∃ n, n = k := ⟨_, rfl⟩
      obtain rfl : k = clauses.length := by omega
      obtain ⟨D, hown, hm⟩ := HS.out
      rw [List.take_length, ← HO.out] at hm
      have hrise : o.Pairwise (· < ·) := by rw [HO.out]; exact groupsE_rise group clauses
      have hsz : Maps.size D = o.length := cset_size hown hm hrise
      have hlo : o.length ≤ 100000 := by rw [HO.out]; exact Nat.le_trans (groupsE_len group clauses) hcl
      rw [← hn] at hown
      by_cases h0 : o = []
      · subst h0
        have hz : Maps.size D = 0 := hsz
        clear hsz hm hrise hn
        go_wp2_with (first
          | (at_len; refine wpList_len_own _ rfl _ 58 rfl 3 59 Try.underlying58 setR bm n D rfl hown ?_)
          | fail)
        go_ret
        exact ⟨none, 0, rfl, fun h => absurd h (Nat.lt_irrefl _), HB.out⟩
      · have h1 : 0 < o.length := List.length_pos_iff.2 h0
        have hperm := cset_perm hown hm hrise
        have hz : ((Maps.size D : Int) == 0) = false := by rw [hsz]; simp [h0]
        have hbl := hown.lt
        have hown2 : (wr.alloc (.cells #[.map (some bm)] 58)).ownsMap Try.prog 3 setR bm n D := hown.kept (row := none) ⟨rfl, rfl, rfl, by simp, fun k hk _ => Below.heap_alloc _ _ _ hk⟩ (by simp)
        have hseq : SeqGives Fence.wide 2 Try.prog 45 #[.pointer (some ⟨wr.heap.size, 0, none⟩)] encZ (fun ss => ss.Perm (intKeys D)) (Maps.size D) (wr.alloc (.cells #[.map (some bm)] 58)) :=
          AnyZI.keys_gives (ρ := keysA_ren) { keysA with } Fence.wide _ trivial rfl (by omega) wr.heap.size bm n D _ (by simp) (by simp) hown2
        have cK : Calls Try.prog 23 #[.map (some bm)] wr fun e w' => e = .returned (.func (.func 45) #[] #[.pointer (some ⟨wr.heap.size, 0, none⟩)]) ∧ w' = wr.alloc (.cells #[.map (some bm)] 58) := callsIn_wide.1 (AnyZI.keys_in keysA Fence.wide 5 trivial rfl (some bm) wr)
        have cS := callsIn_wide.1 (AnyZI.sorted_in sortedA Fence.wide 5 trivial trivial trivial trivial rfl (by omega) (sortsA _) (enters_of Try.func44 (by kernel_rfl) rfl) 45 #[.pointer (some ⟨wr.heap.size, 0, none⟩)] trivial (enters_of Try.func45 (by kernel_rfl) rfl) _ _ (by rw [hsz]; simp only [maxLen]; omega) (by rw [hsz]; omega) _ hseq)
        change Calls Try.prog 22 _ _ _ at cS
        have HK := Lib.hid cK
        have HS := Lib.hid cS
        have HP := Lib.hid (show o.Perm (intKeys D) ∧ o.Pairwise (· < ·) from ⟨hperm, hrise⟩)
        clear cK cS hseq hown2 hperm hrise hsz hm h0 hn hbl
        go_wp2_with (first
          | (at_len; refine wpList_len_own _ rfl _ 58 rfl 3 59 Try.underlying58 setR bm n D rfl hown ?_)
          | (go_at_call 23; (with_reducible refine HK.out.mono ?_); rintro e w2 ⟨rfl, rfl⟩)
          | (go_at_call 22; (with_reducible refine HS.out.mono ?_); rintro e w3 ⟨v, ss, rfl, hss, hrow, _, hb3⟩)
          | fail)
        go_ret
        have hso := hss.trans HP.out.1.symm
        have hms := sort_rise hso HP.out.2
        unfold leI at hms
        rw [hms] at hrow
        obtain ⟨a3, c3, rfl, hi3⟩ := row_ints hrow hso.length_eq.symm
        rw [hso.length_eq]
        exact ⟨a3, c3, rfl, hi3, HB.out.trans (((Below.refl _ wr).alloc (Nat.le_refl _) _).mono HB.out.size |>.trans (hb3.mono (by simp; exact Nat.le_succ_of_le HB.out.size)))⟩

end Go.Proofs.Yteadaiomeccanaa
