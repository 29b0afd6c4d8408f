/- reads: a map from numbers to numbers; how a clause is read. -/
import Derived.Test.YtnachllhjojlcaaV20
import Derived.Maps.OwnSet
namespace Go.Proofs.Ytnachllhjojlcaa
open Go.ChangeShapes Go.WideShapes Go.ChangeAt Go.RowKit Go.Maps Go.Deep
set_option maxRecDepth 100000

def updO (f : Int → Option Int) (x v : Int) : Int → Option Int := fun y => if y = x then some v else f y
theorem zero3 (w : World) : (zeroValue 3).run Try.prog w = .ok (.int .i64 0) w := by kernel_rfl
/-- Block b is a map from numbers to numbers, k of them (m entries at most); f: what is read. -/
def MapI (w : World) (b m : Nat) (f : Int → Option Int) (k : Nat) : Prop :=
  ∃ D, w.ownsMap Try.prog 3 rdV b m D ∧ size D = k ∧ ∀ x, D.atKey (.int .i64 x) (.held (.int .i64 0)) = .held (.int .i64 ((f x).getD 0)) ∧ has D (.int .i64 x) = (f x).isSome
theorem MapI.made (w : World) : MapI (w.alloc (.map #[] 0)) w.heap.size 0 (fun _ => none) 0 := ⟨_, World.ownsMap_made w Try.prog 3 rdV, rfl, fun _ => ⟨rfl, rfl⟩⟩
section
variable {w w' : World} {b m k : Nat} {f : Int → Option Int}
theorem MapI.lt (h : MapI w b m f k) : b < w.heap.size := by
  obtain ⟨D, h1, _⟩ := h
  exact h1.lt
theorem MapI.keep (h : MapI w b m f k) (hk : w'.heap[b]? = w.heap[b]?) : MapI w' b m f k := by
  obtain ⟨D, ⟨es, clock, hb, F, hs, hD⟩, h2⟩ := h
  exact ⟨D, ⟨es, clock, hk.trans hb, F, hs, hD⟩, h2⟩
theorem MapI.below (h : MapI w b m f k) (hb : Below w.heap.size w w') : MapI w' b m f k := h.keep (hb.block b h.lt)
theorem MapI.look (h : MapI w b m f k) {x : Int} (hx : I64 x) : (Instr.lookup 85 (.map (some b)) (.int .i64 x) false).run Try.prog w = .ok (.int .i64 ((f x).getD 0)) w := by
  obtain ⟨D, h1, _, h2⟩ := h
  obtain ⟨v, ps, hrun, hv⟩ := h1.lookup keyed3 Try.underlying85 (zero3 w) (zd := .held (.int .i64 0)) (zp := []) rfl (keyI hx)
  rw [(h2 x).1] at hv
  unfold rdV at hv
  simp only [Option.some.injEq, Prod.mk.injEq, DataW.held.injEq] at hv
  rw [hrun, hv.1]
theorem MapI.len (h : MapI w b m f k) (ty : TypeId) : (Builtin.len_ #[85] ty #[.map (some b)]).run Try.prog w = .ok (.int .i64 k) w := by
  obtain ⟨D, h1, rfl, _⟩ := h
  exact h1.len Try.underlying85 ty
theorem MapI.put (h : MapI w b m f k) {x : Int} (hx : I64 x) (hn : m < maxLen) (v : Int) :
    ∃ w', (Instr.mapUpdate 85 (.map (some b)) (.int .i64 x) (.int .i64 v)).run Try.prog w = .ok () w' ∧ MapI w' b (m + 1) (updO f x v) (if (f x).isSome then k else k + 1) ∧ w.grownBy w' (some b) := by
  obtain ⟨D, h1, h3, h2⟩ := h
  have htd := h1.tidy keyed3
  obtain ⟨w', hrun, h4, h5⟩ := h1.update keyed3 Try.underlying85 hn (keyI hx) (val := .int .i64 v) (d := .held (.int .i64 v)) (ps := []) rfl
  have hkey := keyed3.key (keyI hx)
  refine ⟨w', hrun, ⟨_, h4, ?_, fun y => ?_⟩, h5⟩
  · rw [size_put htd, (h2 x).2, h3]
  · unfold updO
    by_cases hyx : y = x
    · subst hyx
      rw [if_pos rfl, atKey_put_same htd.isMap hkey, has_put_same htd.isMap hkey]
      exact ⟨rfl, rfl⟩
    · have hne : (Lit.int .i64 y) ≠ Lit.int .i64 x := fun e => by injection e with _ e; exact hyx e
      rw [if_neg hyx, atKey_put_other hne, has_put_other hne]
      exact h2 y
end

/-- Is a clause satisfied, or how many of its literals, unlike ones, are open? -/
def readsS (n : Nat) (es : List En) (c : List Int) : Bool × Nat := if c.any (fun x => valE n es x == 1) then (true, 0) else (false, (dedL (openL n es c)).length)
theorem ded_snoc (l : List Int) (x : Int) : dedL (l ++ [x]) = if (dedL l).any (fun y => y == x) then dedL l else dedL l ++ [x] := by
  unfold dedL
  rw [List.foldl_append]
  rfl
/-- What the map holds behind some of them. -/
def openF (n : Nat) (es : List En) (l : List Int) : Int → Option Int := fun y => if y ∈ openL n es l then some 1 else none

theorem reads_any (w : World) (F : Nat → Prop) (g n : Nat) (es : List En) (hT : TrA w F g (trE n es)) (hn : n ≤ 60) (ao : Option Addr) (c : List Int) (cap : Nat) (hc : Ints w ao c) (hl : c.length ≤ 40) (hI : ∀ x ∈ c, I64 x) :
    Calls Try.prog 56 #[.pointer (some ⟨g, 0, none⟩), .slice ao c.length cap] w fun e w' => e = .returned (.tuple #[.bool (readsS n es c).1, .int .i64 (readsS n es c).2]) ∧ Below w.heap.size w w' := by
  obtain ⟨R, hR⟩ : ∃ R, R = readsS n es c := ⟨_, rfl⟩
  rw [← hR]
  unfold readsS at hR
  have HR := Lib.hid hR
  have HC := Lib.hid hc
  have HI := Lib.hid hI
  have HV : Hid (∀ wr x, Below w.heap.size w wr → I64 x → Calls Try.prog 46 #[.pointer (some ⟨g, 0, none⟩), .int .i64 x] wr fun e w' => e = .returned (.int .i64 (valE n es x)) ∧ wr = w') := Lib.hid fun wr x hb hx => tr_value (hT.below hb) (by omega) x hx
  have hmm : ∀ W : World, Sem.run Try.prog (Instr.makeMap 85 none) W = .ok (.map (some W.heap.size)) (W.alloc (.map #[] 0)) := fun W => run_makeMap 85 W
  have h0 : Hid (MapI (w.alloc (.map #[] 0)) w.heap.size 0 (openF n es []) (dedL (openL n es [])).length) := Lib.hid (by
    have := MapI.made w
    exact this)
  have hb0 : Below w.heap.size w (w.alloc (.map #[] 0)) := (Below.refl _ _).alloc (Nat.le_refl _) _
  clear hR hc hI hT
  go_enter Try.func56, Try.ntmps56
  go_wp2_with fail
  go_loopw [7] (fun s wr => ∃ k : Nat, k ≤ c.length ∧ s = .int .i64 k ∧ Hid (MapI wr w.heap.size k (openF n es (c.take k)) (dedL (openL n es (c.take k))).length) ∧ Hid (Below w.heap.size w wr) ∧ Hid ((c.take k).any (fun x => valE n es x == 1) = false)) (fun s _ => c.length - (intOf s).toNat)
  case atStart => exact ⟨0, by omega, rfl, h0, Lib.hid hb0, Lib.hid rfl⟩
  case round =>
    obtain ⟨k, hk, rfl, HM, HB, HA⟩ := hrel
    by_cases hlt : k < c.length
    · have hki : (k : Int) < (c.length : Int) := by omega
      obtain ⟨b, off, rfl, hbl, hcc⟩ := HC.out (by omega)
      have hck : wr.cell? ⟨b, off + k, none⟩ = some (.int .i64 c[k]) := (World.cell?_of_block (w := w) (HB.out.block b hbl)).trans (hcc k hlt)
      have hop := openL_take (n := n) (es := es) k hlt
      have hap := any_take (fun x => valE n es x == 1) c k hlt
      rw [HA.out, Bool.false_or] at hap
      have hmem : c[k] ∈ c := List.getElem_mem hlt
      have hxI := HI.out _ hmem
      generalize c[k] = x at *
      have HVx := Lib.hid (HV.out wr x HB.out hxI)
      have HXI := Lib.hid hxI
      by_cases h1 : valE n es x = 1
      · have hall : (c.any fun x => valE n es x == 1) = true := List.any_eq_true.2 ⟨x, hmem, by simpa using h1⟩
        have hR := HR.out
        rw [if_pos hall] at hR
        subst hR
        rw [h1] at HVx
        clear hop hap hmem hxI hall hcc
        go_wp2_with (go_at_call 46; (with_reducible refine HVx.out.mono ?_); rintro e w2 ⟨rfl, rfl⟩)
        go_ret2
        exact ⟨rfl, HB.out⟩
      · have h1f : (valE n es x == 1) = false := by simpa using h1
        rw [h1f] at hap
        have HAP := Lib.hid hap
        by_cases h2 : valE n es x = 0
        · rw [h2] at HVx
          rw [if_pos h2] at hop
          obtain ⟨w2, hrun, hM2, hg2⟩ := HM.out.put hxI (by have := (by decide : 100 < maxLen); omega) 1
          have hM3 : MapI w2 w.heap.size (k + 1) (openF n es (c.take (k + 1))) (dedL (openL n es (c.take (k + 1)))).length := by
            have e1 : updO (openF n es (c.take k)) x 1 = openF n es (c.take (k + 1)) := by
              funext y
              unfold updO openF
              rw [hop]
              by_cases hy : y = x
              · simp [hy]
              · simp [hy]
            have e2 : (if (openF n es (c.take k) x).isSome then (dedL (openL n es (c.take k))).length else (dedL (openL n es (c.take k))).length + 1) = (dedL (openL n es (c.take (k + 1)))).length := by
              rw [hop, ded_snoc]
              have e3 : (openF n es (c.take k) x).isSome = (dedL (openL n es (c.take k))).any (fun y => y == x) := by
                unfold openF
                have e4 : (dedL (openL n es (c.take k))).any (fun y => y == x) = decide (x ∈ openL n es (c.take k)) := by
                  rw [Bool.eq_iff_iff, List.any_eq_true, decide_eq_true_iff, ← ded_mem (openL n es (c.take k)) x]
                  constructor
                  · rintro ⟨y, hy, hyx⟩
                    rwa [← (beq_iff_eq.1 hyx)]
                  · exact fun hy => ⟨x, hy, by simp⟩
                rw [e4]
                split <;> simp_all
              rw [e3]
              split <;> simp
            rw [e1, e2] at hM2
            exact hM2
          have HM3 := Lib.hid hM3
          have hb2 : Below w.heap.size w w2 := HB.out.grown hg2 HB.out.size (fun j hj => by cases hj; exact Nat.le_refl _)
          have HB2 := Lib.hid hb2
          clear hop hap hmem hxI hcc hM2 hM3 hg2 hb2 h1f
          go_wp2_with (go_at_call 46; (with_reducible refine HVx.out.mono ?_); rintro e w3 ⟨rfl, rfl⟩)
          go_roundw
          case rel => exact ⟨k + 1, by omega, by go_num, HM3, HB2, HAP⟩
          case measure => simp [intOf]; omega
        · rw [if_neg h2, List.append_nil] at hop
          have h2f : (valE n es x == 0) = false := by simpa using h2
          have HM2 : Hid (MapI wr w.heap.size (k + 1) (openF n es (c.take (k + 1))) (dedL (openL n es (c.take (k + 1)))).length) := Lib.hid (by
            unfold openF
            rw [hop]
            obtain ⟨D, a, b⟩ := HM.out
            exact ⟨D, a.mono (Nat.le_succ _), b⟩)
          generalize valE n es x = v at *
          clear hop hap hmem hxI hcc
          go_wp2_with (go_at_call 46; (with_reducible refine HVx.out.mono ?_); rintro e w3 ⟨rfl, rfl⟩)
          go_roundw
          case rel => exact ⟨k + 1, by omega, by go_num, HM2, HB, HAP⟩
          case measure => simp [intOf]; omega
    · obtain rfl : k = c.length := by omega
      have hA := HA.out
      have hM := HM.out
      rw [List.take_length] at hA hM
      have hR := HR.out
      rw [hA] at hR
      simp only [Bool.false_eq_true, if_false] at hR
      subst hR
      have hlen := hM.len
      clear hM hA
      go_wp2_with fail
      go_ret2
      exact ⟨rfl, HB.out⟩

end Go.Proofs.Ytnachllhjojlcaa
