/- Ranges of versions: span.Text, May; the table of Ops lies as the program's text lays it. Conditions: as each theorem names them. -/
import Derived.Test.YtadogjnoklabdaaDoorH4
import Derived.Maps.OwnOps
import Derived.Maps.OwnSet
import Derived.Maps.RangeWalk
namespace Go.Proofs.YtadogjnoklabdaaDoor
open Go.ChangeShapes Go.WideShapes Go.ChangeAt Go.RowKit Go.Deep Go.Maps
set_option maxRecDepth 100000

def opsL : List (List UInt8 × Int) := [([], 0), ([60], 1), ([60, 61], 3), ([61], 2), ([62], 4), ([62, 61], 6)]
def opsD {H : Type} : DataW H := .map (opsL.map fun p => (.string p.1, .lit (.int .u8 p.2)))
def textL (op : Int) : List UInt8 := ((opsL.find? fun p => p.2 == op).map (·.1)).getD []
def mayOp (op : Int) : Bool := op == 0 || op == 1 || op == 2 || op == 3 || op == 4 || op == 6
/-- The Ops as start-up lays them. -/
def Ops (w : World) : Prop := 1 < w.heap.size ∧ ∃ (H : Type) (bm m : Nat), w.cell? ⟨1, 0, none⟩ = some (.map (some bm)) ∧ w.ownsMap (H := H) Tryd.prog 9 (plainElem Tryd.prog 5) bm m opsD
theorem owns_lt {H : Type} {w : World} {bm m : Nat} {D : DataW H} {R : Value → Option (DataW H × List MemPlace)} (h : w.ownsMap Tryd.prog 9 R bm m D) : bm < w.heap.size := by
  obtain ⟨es, clock, hb, _⟩ := h
  exact (Array.getElem?_eq_some_iff.1 hb).1
theorem Ops.below {w w' : World} (h : Ops w) (hb : Below w.heap.size w w') : Ops w' := by
  obtain ⟨h1, H, bm, m, h2, h3⟩ := h
  have hl := owns_lt h3
  obtain ⟨es, clock, hm, r⟩ := h3
  exact ⟨Nat.lt_of_lt_of_le h1 hb.size, H, bm, m, (World.cell?_of_block (w := w) (hb.block 1 h1)).trans h2, es, clock, (hb.block bm hl).trans hm, r⟩
theorem skey (a b : List UInt8) : (Lit.string a).sameKey (.string b) = decide (a = b) := by
  by_cases h : a = b
  · subst h
    rw [decide_eq_true rfl]
    exact WideAt.sameKey_self (by simp [WideAt.IsKeyLit])
  · rw [decide_eq_false h]
    cases hs : (Lit.string a).sameKey (.string b)
    · rfl
    · have := WideAt.sameKey_eq hs
      injection this with this
      exact absurd this h
theorem ops_has {H : Type} {l : List UInt8} (h : Maps.has (opsD (H := H)) (.string l) = true) : ∃ v, (l, v) ∈ opsL ∧ ∀ zd, (opsD (H := H)).atKey (.string l) zd = .lit (.int .u8 v) := by
  unfold Maps.has opsD at h
  simp only [List.any_map, List.any_eq_true, Function.comp, skey, decide_eq_true_eq] at h
  obtain ⟨p, hp, rfl⟩ := h
  refine ⟨p.2, hp, fun zd => ?_⟩
  unfold opsL at hp
  simp only [List.mem_cons, List.not_mem_nil, or_false] at hp
  rcases hp with rfl | rfl | rfl | rfl | rfl | rfl <;> (unfold opsD opsL DataW.atKey; simp [skey])
theorem text_of {l : List UInt8} {v : Int} (h : (l, v) ∈ opsL) : textL v = l := by
  unfold opsL at h
  simp only [List.mem_cons, List.not_mem_nil, or_false, Prod.mk.injEq] at h
  rcases h with ⟨rfl, rfl⟩ | ⟨rfl, rfl⟩ | ⟨rfl, rfl⟩ | ⟨rfl, rfl⟩ | ⟨rfl, rfl⟩ | ⟨rfl, rfl⟩ <;> rfl
theorem text_none {op : Int} (h : ∀ p ∈ opsL, p.2 ≠ op) : textL op = [] := by
  unfold textL
  rw [List.find?_eq_none.2 (fun p hp => by simpa using h p hp)]
  rfl
theorem ops_uniq : ∀ p ∈ opsL, ∀ q ∈ opsL, p.1 = q.1 → p.2 = q.2 := by decide
theorem ops_in {H : Type} : ∀ p ∈ opsL, Maps.has (opsD (H := H)) (.string p.1) = true := fun p hp => by
  unfold Maps.has opsD
  simp only [List.any_map, List.any_eq_true, Function.comp, skey, decide_eq_true_eq]
  exact ⟨p, hp, rfl⟩
theorem text_may (op : Int) (h : op ≠ 0) : mayOp op = !(textL op).isEmpty := by
  unfold textL opsL mayOp
  simp only [List.find?_cons, List.find?_nil]
  by_cases h1 : op = 1
  · subst h1; rfl
  · by_cases h3 : op = 3
    · subst h3; rfl
    · by_cases h2 : op = 2
      · subst h2; rfl
      · by_cases h4 : op = 4
        · subst h4; rfl
        · by_cases h6 : op = 6
          · subst h6; rfl
          · have e0 : ((0 : Int) == op) = false := by simpa using fun e => h e.symm
            have e1 : ((1 : Int) == op) = false := by simpa using fun e => h1 e.symm
            have e2 : ((2 : Int) == op) = false := by simpa using fun e => h2 e.symm
            have e3 : ((3 : Int) == op) = false := by simpa using fun e => h3 e.symm
            have e4 : ((4 : Int) == op) = false := by simpa using fun e => h4 e.symm
            have e6 : ((6 : Int) == op) = false := by simpa using fun e => h6 e.symm
            simp [e0, e1, e2, e3, e4, e6, h, h1, h2, h3, h4, h6]

set_option maxHeartbeats 2000000 in
theorem text_any (op : Int) (w : World) (hO : Ops w) : Calls Tryd.prog 42 #[.int .u8 op] w fun e w' => e = .returned (.string ⟨(textL op).toArray⟩) ∧ Below w.heap.size w w' := by
  obtain ⟨h1, H, bm, m, hc, hown⟩ := hO
  obtain ⟨T, hT⟩ : ∃ T : ByteArray, T = ⟨(textL op).toArray⟩ := ⟨_, rfl⟩
  rw [← hT]
  have HT := Lib.hid hT
  have hbml := owns_lt hown
  clear hT
  go_enter Tryd.func42, Tryd.ntmps42
  go_wp2_with (first
    | (at_range; refine wpList_range_own _ rfl _ 67 rfl 9 5 (string_keyed Tryd.underlying9) Tryd.underlying67 _ bm m _ rfl hown ?_; intro wr0 hrg0 hg0 hs0)
    | fail)
  go_frame
  go_loopw [] (fun wr => ∃ (left : Go.Lit → Bool) (cnt : Nat), wr.ranges (H := H) Tryd.prog 9 (plainElem Tryd.prog 5) bm w.heap.size m opsD left cnt ∧ Hid (∀ kl, left kl = true → Maps.has (opsD (H := H)) kl = true) ∧ Hid (∀ p ∈ opsL, left (.string p.1) = false → p.2 ≠ op) ∧ Hid (Below w.heap.size w wr))
    (fun wr => wr.rangeLeft bm w.heap.size)
  case atStart => exact ⟨_, _, hrg0, Lib.hid (fun _ h => h), Lib.hid (fun p hp h => by rw [ops_in p hp] at h; cases h), Lib.hid ⟨hg0.os, hg0.tape, hg0.output, hg0.size, fun k hk => hg0.block k hk (by simp)⟩⟩
  case round =>
    obtain ⟨left, cnt, hrg, HLs, HNo, HB⟩ := hrel
    go_wp2_with (first
      | (at_next; go_loud (refine wpList_next_ranges _ rfl _ rfl 9 (string_keyed Tryd.underlying9) (plainElem Tryd.prog 5) Value.string (Value.int .u8) (fun key kl h => by obtain ⟨s, h1, _⟩ := WideMaps.string_of_keyOf Tryd.underlying9 h; exact ⟨s, h1⟩) (fun v y h => by obtain ⟨a, h1, _⟩ := plainElem_int_inv Tryd.underlying5 h; exact ⟨a, h1⟩) bm w.heap.size m _ _ _ rfl hrg ?_ ?_))
      | fail)
    · intro hc0 hl0
      have ht : T = ⟨#[]⟩ := by rw [HT.out, text_none fun p hp => HNo.out p hp (hl0 _)]
      subst ht
      clear HT hl0 hrg HNo HLs
      go_wp2_with fail
      go_ret
      exact ⟨rfl, HB.out⟩
    · intro s c kl y1 y2 wr2 cnt' hkey hlx hy hat hrg2 hlt hgr hsz hen
      obtain ⟨s', es, rfl, _⟩ := WideMaps.string_of_keyOf Tryd.underlying9 hkey
      injection es with es
      subst es
      obtain ⟨v, hv, hat2⟩ := ops_has (HLs.out _ hlx)
      obtain ⟨c', ec, hc2, _⟩ := plainElem_int_inv Tryd.underlying5 hy
      injection ec with _ ec
      subst ec
      have hcv : c = v := by
        have h5 := (hat (.lit (.int .u8 0))).symm.trans (hat2 (.lit (.int .u8 0)))
        simp only [Prod.mk.injEq] at hc2
        rw [hc2.1] at h5
        injection h5 with h5
        injection h5 with _ h5
      subst hcv
      have hm0 : wr.rangeLeft bm w.heap.size = cnt := hrg.left_eq
      have hm1 : wr2.rangeLeft bm w.heap.size = cnt' := hrg2.left_eq
      have HB2 := Lib.hid (show Below w.heap.size w wr2 from HB.out.trans ⟨hgr.os, hgr.tape, hgr.output, hgr.size, fun k hk => hgr.block k (by have := HB.out.size; omega) (by simp; omega)⟩)
      have HLs2 : Hid (∀ kl, (left kl && !kl.sameKey (.string s.data.toList)) = true → Maps.has (opsD (H := H)) kl = true) := Lib.hid fun kl h => HLs.out kl (by simp only [Bool.and_eq_true] at h; exact h.1)
      have HV := Lib.hid hv
      have HRg := Lib.hid hrg2
      have HM := Lib.hid (show wr2.rangeLeft bm w.heap.size < wr.rangeLeft bm w.heap.size by omega)
      clear hkey hlx hy hat hat2 hc2 hrg hrg2 hlt hgr hsz hm0 hm1 HLs hv
      by_cases he : c = op
      · subst he
        have ht : T = s := by
          rw [HT.out, text_of HV.out]
        subst ht
        have hcc : (c == c) = true := by simp
        clear HT
        go_wp2_with fail
        go_ret
        exact ⟨rfl, HB2.out⟩
      · have hcc : (c == op) = false := by simpa using he
        have HNo2 : Hid (∀ p ∈ opsL, (left (.string p.1) && !(Lit.string p.1).sameKey (.string s.data.toList)) = false → p.2 ≠ op) := Lib.hid fun p hp h => by
          rw [skey] at h
          cases hl : left (.string p.1) with
          | false => exact HNo.out p hp hl
          | true =>
            rw [hl] at h
            have h2 : p.1 = s.data.toList := by simpa using h
            rw [ops_uniq p hp _ HV.out h2]
            exact he
        clear HNo he
        go_wp2_with fail
        go_roundw
        case rel => exact ⟨_, _, HRg.out, HLs2, HNo2, HB2⟩
        case measure => exact HM.out

end Go.Proofs.YtadogjnoklabdaaDoor
