/- Plain laws for TrailOnce; trails beside a block of something else. -/
import Derived.Test.YthinopiobihmaaaGc
import Derived.Maps.OwnSet
import Derived.Maps.OwnOps
import Derived.Maps.RangeWalk
import Derived.StillTailTactics
import Derived.BigQuiet
import Derived.Deep.QuietTactic
import Derived.Deep.Cut
namespace Go.Proofs.Ythinopiobihmaaa
open Go.ChangeShapes Go.WideShapes Go.ChangeAt Go.RowKit
set_option maxRecDepth 100000

theorem Trails.withX {w0 w w' : World} {X Y : Nat → Prop} {L : List (Nat × TrD)} (h : Trails w0 w X L) (hb : Below w.heap.size w w') (hY : ∀ k, Y k → X k ∨ (w.heap.size ≤ k ∧ k < w'.heap.size)) : Trails w0 w' Y L := by
  have hh := h.below hb
  have h1 := hh.bel
  have h2 := h.xlt
  obtain ⟨_, _, o, a3, a4, a5, a6, a7⟩ := h
  refine ⟨h1, fun k hk => ?_, o, fun i g T hi => (a3 i g T hi).below hb, a4, a5, fun i k hk => Nat.lt_of_lt_of_le (a6 i k hk) hb.size, fun i k hk hy => ?_⟩
  · rcases hY k hk with h | h
    · exact Nat.lt_of_lt_of_le (h2 k h) hb.size
    · exact h.2
  · rcases hY k hy with h | h
    · exact a7 i k hk h
    · have := a6 i k hk; omega

/-- Something writes the other blocks alone. -/
theorem Trails.foreign {w0 w w' : World} {X : Nat → Prop} {L : List (Nat × TrD)} (h : Trails w0 w X L) (ht : Touch X w w') (hX : ∀ k, X k → w0.heap.size ≤ k) : Trails w0 w' X L := by
  obtain ⟨h1, h2, o, a3, a4, a5, a6, a7⟩ := h
  exact ⟨h1.trans (ht.below h1.size fun x hx hf => by have := hX x hf; omega), fun k hk => Nat.lt_of_lt_of_le (h2 k hk) ht.size, o, fun i g T hi => (a3 i g T hi).other ht (a7 i), a4, a5, fun i k hk => Nat.lt_of_lt_of_le (a6 i k hk) ht.size, a7⟩

/-! ### What is found of a variable -/
def sgn (v : Nat) : Option En → Int
  | none => 0
  | some e => if e.lit = (v : Int) + 1 then 1 else -1

theorem val_posR {n : Nat} {es : List En} (v : Nat) (h : v < n) : valE n es ((v : Int) + 1) = sgn v (look es v) := by
  unfold valE
  have e1 : ((v : Int) + 1).natAbs - 1 = v := by omega
  rw [if_pos (by omega), e1]
  cases look es v <;> rfl
theorem val_negR {n : Nat} {es : List En} (v : Nat) (h : v < n) : valE n es (-(v : Int) - 1) = -sgn v (look es v) := by
  unfold valE
  have e1 : (-(v : Int) - 1).natAbs - 1 = v := by omega
  rw [if_pos (by omega), e1]
  cases hl : look es v with
  | none => rfl
  | some e =>
    have h2 := (look_some hl).2
    simp only [sgn]
    by_cases h3 : e.lit = (v : Int) + 1
    · rw [if_pos h3, if_neg (by omega)]
    · rw [if_neg h3, if_pos (by omega)]
      rfl
theorem of_var {n : Nat} {es : List En} (v : Nat) (h : v < n) : ofE n es v = knE (look es v) := by
  unfold ofE
  rw [if_neg (by omega)]
  rfl

/-- A literal that lies on the trail. -/
theorem on_trail {n : Nat} {es : List En} (hg : Good n es) {e : En} (he : e ∈ es) : valE n es e.lit = 1 ∧ ofE n es ((e.lit.natAbs - 1 : Nat) : Int) = ⟨if e.lit < 0 then -1 else 1, e.level, e.reason⟩ := by
  have hl := hg.lit e he
  have hm := look_mem hg e he
  unfold Lit at hl
  constructor
  · unfold valE
    rw [if_pos hl, hm]
    simp
  · rw [of_var _ (by omega), hm]
    rfl

/-! ### The trail, from its beginning on -/
def older (es : List En) (k : Nat) : List En := es.drop (es.length - k)
theorem older_zero (es : List En) : older es 0 = [] := by simp [older]
theorem older_all (es : List En) : older es es.length = es := by simp [older]
theorem older_good {n : Nat} {es : List En} (k : Nat) (h : Good n es) : Good n (older es k) := by
  have e := List.take_append_drop (es.length - k) es
  rw [← e] at h
  exact h.tail
theorem older_succ (es : List En) (k : Nat) (h : k < es.length) : ∃ e, e ∈ es ∧ older es (k + 1) = e :: older es k ∧ atE es k = e.lit := by
  have hj : es.length - (k + 1) < es.length := by omega
  refine ⟨es[es.length - (k + 1)], List.getElem_mem _, ?_, ?_⟩
  · unfold older
    rw [List.drop_eq_getElem_cons hj]
    congr 2
    omega
  · unfold atE
    rw [if_neg (by omega)]
    simp only [Int.toNat_natCast]
    rw [List.getD_eq_getElem?_getD, List.getElem?_reverse (by simpa using h)]
    simp only [List.length_map, List.getElem?_map]
    have e1 : es.length - 1 - k = es.length - (k + 1) := by omega
    rw [e1, List.getElem?_eq_getElem hj]
    rfl
theorem at_out (es : List En) (i : Int) (h : i < 0 ∨ (es.length : Int) ≤ i) : atE es i = 0 := by
  unfold atE
  by_cases h0 : i < 0
  · rw [if_pos h0]
  · rw [if_neg h0, List.getD_eq_getElem?_getD, List.getElem?_eq_none (by simp; omega)]
    rfl

end Go.Proofs.Ythinopiobihmaaa

namespace Go.Proofs.Ythinopiobihmaaa
open Go.ChangeShapes Go.WideShapes Go.ChangeAt Go.RowKit
set_option maxRecDepth 100000

theorem lvar_any (lit : Int) (w : World) (h1 : -4611686018427387904 ≤ lit) (h2 : lit ≤ 4611686018427387904) :
    Calls Try.prog 42 #[.int .i64 lit] w fun e w' => e = .returned (.int .i64 ((lit.natAbs : Int) - 1)) ∧ w = w' := by
  obtain ⟨r, hr⟩ : ∃ r : Int, r = (lit.natAbs : Int) - 1 := ⟨_, rfl⟩
  rw [← hr]
  by_cases hneg : lit < 0
  · have h3 : -lit - 1 = r := by omega
    clear hr
    go_enter Try.func42, Try.ntmps42
    go_wp2_with fail
    go_ret
    exact ⟨rfl, rfl⟩
  · have h3 : lit - 1 = r := by omega
    have hneg' : decide (lit < 0) = false := by simpa using hneg
    clear hr
    go_enter Try.func42, Try.ntmps42
    go_wp2_with fail
    go_ret
    exact ⟨rfl, rfl⟩

/-- The first place at which f holds; -1: nowhere. -/
def firstAtK (f : Int → Bool) : List Int → Nat → Int
  | [], _ => -1
  | x :: xs, k => if f x then k else firstAtK f xs (k + 1)

theorem firstAt_anyK (f : Int → Bool) : ∀ (l : List Int) (k : Nat), decide (0 ≤ firstAtK f l k) = l.any f
  | [], k => by simp [firstAtK]
  | x :: xs, k => by
    unfold firstAtK
    by_cases h : f x = true
    · rw [if_pos h]
      simp [h]
    · rw [if_neg h, firstAt_anyK f xs (k + 1)]
      simp [h]

theorem indexFunc_any (f : Int → Bool) (cp : Nat) (l : List Int) (ao : Option Addr) (cap : Nat) (w : World) (hl : l.length ≤ 4611686018427387904)
    (hc : 0 < l.length → ∃ b off, ao = some ⟨b, off, none⟩ ∧ ∀ j (h : j < l.length), w.cell? ⟨b, off + j, none⟩ = some (.int .i64 l[j]))
    (hf : ∀ x ∈ l, Calls Try.prog 79 #[.int .i64 x, .pointer (some ⟨cp, 0, none⟩)] w fun e w' => e = .returned (.bool (f x)) ∧ w = w') :
    Calls Try.prog 73 #[.slice ao l.length cap, .func (.func 79) #[] #[.pointer (some ⟨cp, 0, none⟩)]] w fun e w' => e = .returned (.int .i64 (firstAtK f l 0)) ∧ w = w' := by
  obtain ⟨T, hT⟩ : ∃ T, T = firstAtK f l 0 := ⟨_, rfl⟩
  have HT := Lib.hid hT
  have HF := Lib.hid hf
  rw [← hT]
  clear hT hf
  go_enter Try.func73, Try.ntmps73
  go_wp2_with fail
  go_loop [8] (fun i => ∃ k : Nat, k ≤ l.length ∧ i = .int .i64 k ∧ T = firstAtK f (l.drop k) k) (fun i => l.length - (intOf i).toNat)
  case atStart => exact ⟨0, by omega, rfl, HT.out⟩
  case round =>
    obtain ⟨k, hk, rfl, hrest⟩ := hrel
    by_cases hlt : k < l.length
    · obtain ⟨b, off, rfl, hcell⟩ := hc (by omega)
      have hck := hcell k hlt
      have hki : (k : Int) < (l.length : Int) := by omega
      rw [List.drop_eq_getElem_cons hlt] at hrest
      unfold firstAtK at hrest
      have HC := Lib.hid (HF.out l[k] (List.getElem_mem _))
      generalize l[k] = x at *
      generalize hfx : f x = b1 at *
      cases b1 with
      | true =>
        rw [if_pos rfl] at hrest
        subst hrest
        clear hfx hc hcell
        go_wp2_with (go_at_call 79; refine HC.out.mono ?_; rintro e w' ⟨rfl, rfl⟩)
        go_ret
        exact ⟨rfl, rfl⟩
      | false =>
        have HR := Lib.hid hrest
        clear hfx hc hcell hrest
        go_wp2_with (go_at_call 79; refine HC.out.mono ?_; rintro e w' ⟨rfl, rfl⟩)
        go_round
        case rel => exact ⟨k + 1, by omega, by go_num, by have h := HR.out; rw [if_neg (by simp)] at h; exact h⟩
        case measure => simp [intOf]; omega
    · obtain rfl : k = l.length := by omega
      have hT : T = -1 := by rw [hrest, List.drop_length]; rfl
      subst hT
      clear hrest hc
      go_wp2_with fail
      go_ret
      exact ⟨rfl, rfl⟩

theorem containsFunc_any (f : Int → Bool) (cp : Nat) (l : List Int) (ao : Option Addr) (cap : Nat) (w : World) (hl : l.length ≤ 4611686018427387904)
    (hc : 0 < l.length → ∃ b off, ao = some ⟨b, off, none⟩ ∧ ∀ j (h : j < l.length), w.cell? ⟨b, off + j, none⟩ = some (.int .i64 l[j]))
    (hf : ∀ x ∈ l, Calls Try.prog 79 #[.int .i64 x, .pointer (some ⟨cp, 0, none⟩)] w fun e w' => e = .returned (.bool (f x)) ∧ w = w') :
    Calls Try.prog 58 #[.slice ao l.length cap, .func (.func 79) #[] #[.pointer (some ⟨cp, 0, none⟩)]] w fun e w' => e = .returned (.bool (l.any f)) ∧ w = w' := by
  have HI := Lib.hid (indexFunc_any f cp l ao cap w hl hc hf)
  have h := firstAt_anyK f l 0
  generalize firstAtK f l 0 = r at *
  rw [← h]
  clear h hf hc
  go_enter Try.func58, Try.ntmps58
  go_wp2_with (go_at_call 73; refine HI.out.mono ?_; rintro e w' ⟨rfl, rfl⟩)
  go_ret
  exact ⟨rfl, rfl⟩

/-- The lesson lies at p; what its trail tells. -/
theorem known1_any {w0 w : World} {X : Nat → Prop} {L : List (Nat × TrD)} {g n p cp : Nat} {es : List En} {v1 v2 v3 : Value} (x : Int) (hT : Trails w0 w X L) (i : Nat) (hL : L[i]? = some (g, trE n es)) (hn : n ≤ 5000)
    (hb : Blk w p 87 #[.pointer (some ⟨g, 0, none⟩), v1, v2, v3]) (hcp : w.cell? ⟨cp, 0, none⟩ = some (.pointer (some ⟨p, 0, none⟩))) :
    Calls Try.prog 79 #[.int .i64 x, .pointer (some ⟨cp, 0, none⟩)] w fun e w' => e = .returned (.bool (!decide (1 ≤ x.natAbs ∧ x.natAbs ≤ n))) ∧ w = w' := by
  have HV := Lib.hid (vars_tr hT i hL)
  have hc0 := hb.cell 0
  simp at hc0
  clear hT
  by_cases h0 : x = 0
  · subst h0
    go_enter Try.func79, Try.ntmps79
    go_wp2_with (go_at_call 40; refine HV.out.mono ?_; rintro e w' ⟨rfl, rfl⟩)
    go_ret
    exact ⟨by simp, rfl⟩
  · have h0' : (x == 0) = false := by simpa using h0
    by_cases h1 : (n : Int) < x
    · have h5 : (!decide (1 ≤ x.natAbs ∧ x.natAbs ≤ n)) = true := by simp; omega
      rw [h5]
      go_enter Try.func79, Try.ntmps79
      go_wp2_with (go_at_call 40; refine HV.out.mono ?_; rintro e w' ⟨rfl, rfl⟩)
      go_ret
      exact ⟨rfl, rfl⟩
    · have h1' : decide ((n : Int) < x) = false := by simpa using h1
      by_cases h2 : x < -(n : Int)
      · have h5 : (!decide (1 ≤ x.natAbs ∧ x.natAbs ≤ n)) = true := by simp; omega
        rw [h5]
        go_enter Try.func79, Try.ntmps79
        go_wp2_with (go_at_call 40; refine HV.out.mono ?_; rintro e w' ⟨rfl, rfl⟩)
        go_ret
        exact ⟨rfl, rfl⟩
      · have h2' : decide (x < -(n : Int)) = false := by simpa using h2
        have h5 : (!decide (1 ≤ x.natAbs ∧ x.natAbs ≤ n)) = false := by simp; omega
        rw [h5]
        go_enter Try.func79, Try.ntmps79
        go_wp2_with (go_at_call 40; refine HV.out.mono ?_; rintro e w' ⟨rfl, rfl⟩)
        go_ret
        exact ⟨rfl, rfl⟩

end Go.Proofs.Ythinopiobihmaaa

namespace Go.Proofs.Ythinopiobihmaaa
open Go.ChangeShapes Go.WideShapes Go.ChangeAt Go.RowKit Go.Maps
set_option maxRecDepth 100000

theorem keyIK (x : Int) : WideAt.IsKeyLit (.int .i64 x) := by simp [WideAt.IsKeyLit]

/-- At bm lies a map: at the keys below len of which hp holds it has f; at no others. -/
def HeldM (w : World) (bm M len : Nat) (f : Nat → Int) (hp : Nat → Bool) : Prop :=
  ∃ (m : Nat) (D : DataW Unit), w.ownsMap Try.prog 3 (plainElem Try.prog 3) bm m D ∧ m ≤ M ∧ (∀ x : Int, Maps.has D (.int .i64 x) = (decide (0 ≤ x ∧ x < (len : Int)) && hp x.toNat)) ∧
    ∀ k : Nat, k < len → hp k = true → ∀ zd, D.atKey (.int .i64 k) zd = .lit (.int .i64 (f k))

theorem owns_isMap {w : World} {b n : Nat} {D : DataW Unit} (h : w.ownsMap Try.prog 3 (plainElem Try.prog 3) b n D) : IsMap D := by
  obtain ⟨es, clock, _, _, _, hD⟩ := h
  exact ⟨_, hD⟩

theorem held_new (w : World) (len : Nat) (f : Nat → Int) : HeldM (w.alloc (.map #[] 0)) w.heap.size 0 len f (fun _ => false) :=
  ⟨0, .map [], World.ownsMap_made w _ _ _, Nat.le_refl _, fun x => by simp [Maps.has], fun k _ h => by cases h⟩

theorem HeldM.kept {w w' : World} {bm M len : Nat} {f : Nat → Int} {hp : Nat → Bool} {row : Option Nat} (h : HeldM w bm M len f hp) (hg : w.grownBy w' row) (hne : some bm ≠ row) : HeldM w' bm M len f hp := by
  obtain ⟨m, D, h1, h2⟩ := h
  exact ⟨m, D, h1.kept hg hne, h2⟩
theorem HeldM.below {w w' : World} {bm M len : Nat} {f : Nat → Int} {hp : Nat → Bool} (h : HeldM w bm M len f hp) (hb : Below w.heap.size w w') : HeldM w' bm M len f hp :=
  h.kept (row := none) ⟨hb.os, hb.tape, hb.output, hb.size, fun k hk _ => hb.block k hk⟩ (by simp)
theorem HeldM.lt {w : World} {bm M len : Nat} {f : Nat → Int} {hp : Nat → Bool} (h : HeldM w bm M len f hp) : bm < w.heap.size := by
  obtain ⟨m, D, h1, _⟩ := h
  exact h1.lt

theorem held_put {w' : World} {bm m M len : Nat} {f : Nat → Int} {hp : Nat → Bool} {D : DataW Unit} (k : Nat) (hD : IsMap D) (h : w'.ownsMap Try.prog 3 (plainElem Try.prog 3) bm (m + 1) (D.put (.int .i64 k) (.lit (.int .i64 (f k))))) (hm : m ≤ M) (hk : k < len)
    (h1 : ∀ x : Int, Maps.has D (.int .i64 x) = (decide (0 ≤ x ∧ x < (len : Int)) && hp x.toNat)) (h2 : ∀ k : Nat, k < len → hp k = true → ∀ zd, D.atKey (.int .i64 k) zd = .lit (.int .i64 (f k))) :
    HeldM w' bm (M + 1) len f (fun j => decide (j = k) || hp j) := by
  refine ⟨m + 1, _, h, by omega, fun x => ?_, fun j hj hhp zd => ?_⟩
  · by_cases hx : x = (k : Int)
    · subst hx
      rw [has_put_same hD (keyIK _)]
      simp
      omega
    · rw [has_put_other (by simpa using hx), h1]
      by_cases h0 : 0 ≤ x ∧ x < (len : Int)
      · have : ¬ x.toNat = k := by omega
        simp [h0, this]
      · simp [h0]
  · by_cases hjk : j = k
    · subst hjk
      exact atKey_put_same hD (keyIK _) _ _
    · rw [atKey_put_other (by intro e; injection e with _ e; exact hjk (by omega))]
      exact h2 j hj (by simpa [hjk] using hhp) zd

theorem held_del {w' : World} {bm m M len : Nat} {f : Nat → Int} {hp : Nat → Bool} {D : DataW Unit} (k : Nat) (h : w'.ownsMap Try.prog 3 (plainElem Try.prog 3) bm m (D.del (.int .i64 k))) (hm : m ≤ M)
    (h1 : ∀ x : Int, Maps.has D (.int .i64 x) = (decide (0 ≤ x ∧ x < (len : Int)) && hp x.toNat)) (h2 : ∀ k : Nat, k < len → hp k = true → ∀ zd, D.atKey (.int .i64 k) zd = .lit (.int .i64 (f k))) :
    HeldM w' bm M len f (fun j => hp j && !decide (j = k)) := by
  refine ⟨m, _, h, hm, fun x => ?_, fun j hj hhp zd => ?_⟩
  · by_cases hx : x = (k : Int)
    · subst hx
      rw [has_del_same]
      simp
    · rw [has_del_other (by simpa using hx), h1]
      by_cases h0 : 0 ≤ x ∧ x < (len : Int)
      · have : ¬ x.toNat = k := by omega
        simp [h0, this]
      · simp [h0]
  · simp only [Bool.and_eq_true, Bool.not_eq_true', decide_eq_false_iff_not] at hhp
    rw [atKey_del_other (by intro e; injection e with _ e; exact hhp.2 (by omega))]
    exact h2 j hj hhp.1 zd

/-! ### Places -/
/-- Where a variable's literal stands; 0: nowhere. -/
def posV : List En → Nat → Nat
  | [], _ => 0
  | e :: es, v => if e.lit.natAbs = v + 1 then es.length else posV es v
def placesE (n : Nat) (es : List En) : List Int := (List.range n).map fun v => (posV es v : Int)
theorem placesE_len (n : Nat) (es : List En) : (placesE n es).length = n := by simp [placesE]
theorem placesE_get (n : Nat) (es : List En) (v : Nat) (h : v < n) : (inC (placesE n es))[v]? = some (.int .i64 (posV es v)) := by simp [placesE, inC, h]
theorem placesE_set (n : Nat) (es : List En) (e : En) (h : Lit n e.lit) : (inC (placesE n es)).set (e.lit.natAbs - 1) (.int .i64 es.length) = inC (placesE n (e :: es)) := by
  have h1 := h.1
  apply List.ext_getElem?
  intro v
  by_cases hv : v < n
  · rw [placesE_get _ _ v hv]
    by_cases hev : e.lit.natAbs - 1 = v
    · have h2 : e.lit.natAbs = v + 1 := by omega
      rw [hev]
      simp [posV, h2, inC, placesE, hv]
    · have h3 : ¬ e.lit.natAbs = v + 1 := by omega
      rw [List.getElem?_set_ne hev, placesE_get _ _ v hv]
      simp only [posV, if_neg h3]
  · rw [List.getElem?_eq_none (by simp [inC, placesE_len]; omega), List.getElem?_eq_none (by simp [inC, placesE_len]; omega)]

theorem posV_lt {es : List En} {v : Nat} {e : En} (h : look es v = some e) : posV es v < es.length := by
  induction es with
  | nil => cases h
  | cons a es ih =>
    simp only [look] at h
    simp only [posV, List.length_cons]
    split
    · omega
    · next hne =>
      rw [if_neg hne] at h
      have := ih h
      omega

theorem posV_at {es : List En} {v : Nat} {e : En} (h : look es v = some e) : es.reverse[posV es v]? = some e := by
  induction es with
  | nil => cases h
  | cons a es ih =>
    simp only [look] at h
    simp only [posV, List.reverse_cons]
    by_cases hne : a.lit.natAbs = v + 1
    · rw [if_pos hne] at h ⊢
      cases h
      rw [List.getElem?_append_right (by simp)]
      simp
    · rw [if_neg hne] at h ⊢
      have h1 := posV_lt h
      rw [List.getElem?_append_left (by simpa using h1)]
      exact ih h

/-- A lesson at p over the trail at g. -/
structure IsLes (w : World) (p g bp bm M n : Nat) (es : List En) (cv : Value) (hp : Nat → Bool) : Prop where
  blk : Blk w p 87 #[.pointer (some ⟨g, 0, none⟩), cv, .slice (some ⟨bp, 0, none⟩) n n, .map (some bm)]
  places : Own w 3 1 (.slice (some ⟨bp, 0, none⟩) n n) n (inC (placesE n es))
  held : HeldM w bm M es.length (fun k => -atE es k) hp

theorem IsLes.below {w w' : World} {p g bp bm M n : Nat} {es : List En} {cv : Value} {hp : Nat → Bool} (h : IsLes w p g bp bm M n es cv hp) (hb : Below w.heap.size w w') : IsLes w' p g bp bm M n es cv hp :=
  ⟨h.blk.below hb h.blk.lt, h.places.new hb, h.held.below hb⟩

theorem lknown_any {w0 w : World} {X : Nat → Prop} {L : List (Nat × TrD)} {g n p bp bm M : Nat} {es : List En} {cv : Value} {hp : Nat → Bool} (l : List Int) (ao : Option Addr) (cap : Nat) (hT : Trails w0 w X L) (i : Nat) (hL : L[i]? = some (g, trE n es)) (hn : n ≤ 5000)
    (hS : IsLes w p g bp bm M n es cv hp) (hl : l.length ≤ 4611686018427387904)
    (hc : 0 < l.length → ∃ b off, ao = some ⟨b, off, none⟩ ∧ b < w.heap.size ∧ ∀ j (h : j < l.length), w.cell? ⟨b, off + j, none⟩ = some (.int .i64 l[j])) :
    Calls Try.prog 66 #[.pointer (some ⟨p, 0, none⟩), .slice ao l.length cap] w fun e w' => e = .returned (.bool (l.all fun x => decide (1 ≤ x.natAbs ∧ x.natAbs ≤ n))) ∧ Below w.heap.size w w' := by
  have hmf : ∀ (fn : Fn) (first cap : Array Value) (w : World), (Instr.makeFunc fn first cap).run Try.prog w = .ok (.func fn first cap) w := fun _ _ _ _ => rfl
  obtain ⟨W, hW⟩ : ∃ W, W = w.alloc (.cells #[.pointer (some ⟨p, 0, none⟩)] 85) := ⟨_, rfl⟩
  have hb : Below w.heap.size w W := by rw [hW]; exact (Below.refl _ _).alloc (Nat.le_refl _) _
  have hcp : W.cell? ⟨w.heap.size, 0, none⟩ = some (.pointer (some ⟨p, 0, none⟩)) := by rw [hW]; exact (Blk.new w _ _).cell 0
  have HC := containsFunc_any (fun x => !decide (1 ≤ x.natAbs ∧ x.natAbs ≤ n)) w.heap.size l ao cap W hl (fun h => by
    obtain ⟨b, off, e, hbl, hcell⟩ := hc h
    exact ⟨b, off, e, fun j hj => (World.cell?_of_block (w := w) (hb.block b hbl)).trans (hcell j hj)⟩) (fun x _ => known1_any x (hT.below hb) i hL hn (hS.below hb).blk hcp)
  rw [hW] at HC
  have hall : (!(l.any fun x => !decide (1 ≤ x.natAbs ∧ x.natAbs ≤ n))) = l.all fun x => decide (1 ≤ x.natAbs ∧ x.natAbs ≤ n) := by
    rw [List.not_any_eq_all_not]
    simp
  rw [← hall]
  generalize (l.any fun x => !decide (1 ≤ x.natAbs ∧ x.natAbs ≤ n)) = r at *
  have HC := Lib.hid HC
  rw [hW] at hb
  have HB := Lib.hid hb
  clear hall hcp hW hb hT hS hc
  go_enter Try.func66, Try.ntmps66
  go_wp2_with (go_at_call 58; refine HC.out.mono ?_; rintro e w' ⟨rfl, rfl⟩)
  go_ret
  exact ⟨rfl, HB.out⟩

end Go.Proofs.Ythinopiobihmaaa

namespace Go.Proofs.Ythinopiobihmaaa
open Go.ChangeShapes Go.WideShapes Go.ChangeAt Go.RowKit Go.Maps
set_option maxRecDepth 100000

theorem index_anyK (v : Int) (l : List Int) (ao : Option Addr) (cap : Nat) (w : World) (hl : l.length ≤ 4611686018427387904)
    (hc : 0 < l.length → ∃ b off, ao = some ⟨b, off, none⟩ ∧ ∀ j (h : j < l.length), w.cell? ⟨b, off + j, none⟩ = some (.int .i64 l[j])) :
    Calls Try.prog 74 #[.slice ao l.length cap, .int .i64 v] w fun e w' => e = .returned (.int .i64 (firstAtK (fun x => x == v) l 0)) ∧ w = w' := by
  obtain ⟨T, hT⟩ : ∃ T, T = firstAtK (fun x => x == v) l 0 := ⟨_, rfl⟩
  have HT := Lib.hid hT
  rw [← hT]
  clear hT
  go_enter Try.func74, Try.ntmps74
  go_wp2_with fail
  go_loop [8] (fun i => ∃ k : Nat, k ≤ l.length ∧ i = .int .i64 k ∧ T = firstAtK (fun x => x == v) (l.drop k) k) (fun i => l.length - (intOf i).toNat)
  case atStart => exact ⟨0, by omega, rfl, HT.out⟩
  case round =>
    obtain ⟨k, hk, rfl, hrest⟩ := hrel
    by_cases hlt : k < l.length
    · obtain ⟨b, off, rfl, hcell⟩ := hc (by omega)
      have hck := hcell k hlt
      have hki : (k : Int) < (l.length : Int) := by omega
      rw [List.drop_eq_getElem_cons hlt] at hrest
      unfold firstAtK at hrest
      generalize l[k] = x at *
      by_cases hx : x = v
      · subst hx
        rw [if_pos (by simp)] at hrest
        subst hrest
        clear hc hcell
        go_wp2_with fail
        go_ret
        exact ⟨rfl, rfl⟩
      · rw [if_neg (by simpa using hx)] at hrest
        have h1 : (x == v) = false := by simpa using hx
        have h2 : (v == x) = false := by simp; omega
        have HR := Lib.hid hrest
        clear hc hcell hrest
        go_wp2_with fail
        go_round
        case rel => exact ⟨k + 1, by omega, by go_num, HR.out⟩
        case measure => simp [intOf]; omega
    · obtain rfl : k = l.length := by omega
      have hT : T = -1 := by rw [hrest, List.drop_length]; rfl
      subst hT
      clear hrest hc
      go_wp2_with fail
      go_ret
      exact ⟨rfl, rfl⟩

theorem contains_anyK (v : Int) (l : List Int) (ao : Option Addr) (cap : Nat) (w : World) (hl : l.length ≤ 4611686018427387904)
    (hc : 0 < l.length → ∃ b off, ao = some ⟨b, off, none⟩ ∧ ∀ j (h : j < l.length), w.cell? ⟨b, off + j, none⟩ = some (.int .i64 l[j])) :
    Calls Try.prog 59 #[.slice ao l.length cap, .int .i64 v] w fun e w' => e = .returned (.bool (l.any fun x => x == v)) ∧ w = w' := by
  have HI := Lib.hid (index_anyK v l ao cap w hl hc)
  have h := firstAt_anyK (fun x => x == v) l 0
  generalize firstAtK (fun x => x == v) l 0 = r at *
  rw [← h]
  clear h hc
  go_enter Try.func59, Try.ntmps59
  go_wp2_with (go_at_call 74; refine HI.out.mono ?_; rintro e w' ⟨rfl, rfl⟩)
  go_ret
  exact ⟨rfl, rfl⟩

end Go.Proofs.Ythinopiobihmaaa

namespace Go.Proofs.Ythinopiobihmaaa
open Go.ChangeShapes Go.WideShapes Go.ChangeAt Go.RowKit Go.Maps
set_option maxRecDepth 100000

/-- A literal that take may take in: but itself; else a false one, ahead of a place. -/
def okT (n : Nat) (es : List En) (but place x : Int) : Bool := decide (x = but) || (decide (valE n es x = -1) && decide ((posV es (x.natAbs - 1) : Int) < place))
def addH (es : List En) (l : List Int) (but : Int) (hp : Nat → Bool) (k : Nat) : Bool := hp k || l.any fun x => decide (x ≠ but) && decide (posV es (x.natAbs - 1) = k)
def knownB (n : Nat) (l : List Int) : Bool := l.all fun x => decide (1 ≤ x.natAbs ∧ x.natAbs ≤ n)
def takeC (n : Nat) (es : List En) (l : List Int) (but place : Int) (hp : Nat → Bool) : Int × (Nat → Bool) :=
  if knownB n l = false then (1, hp) else if but ≠ 0 ∧ (l.any fun x => x == but) = false then (7, hp) else if l.all (okT n es but place) = false then (7, hp) else (0, addH es l but hp)

theorem blk_ne_map {w : World} {g : Nat} {t : TypeId} {cs : Array Value} {bm M len : Nat} {f : Nat → Int} {hp : Nat → Bool} (h : Blk w g t cs) (hm : HeldM w bm M len f hp) : g ≠ bm := by
  rintro rfl
  obtain ⟨m, D, ⟨es, clock, hb, _⟩, _⟩ := hm
  unfold Blk at h
  rw [hb] at h
  cases h
theorem cell_ne_map {w : World} {b off : Nat} {v : Value} {bm M len : Nat} {f : Nat → Int} {hp : Nat → Bool} (h : w.cell? ⟨b, off, none⟩ = some v) (hm : HeldM w bm M len f hp) : b ≠ bm := by
  rintro rfl
  obtain ⟨m, D, ⟨es, clock, hb, _⟩, _⟩ := hm
  simp [World.cell?, hb] at h

theorem IsLes.turned {w w' : World} {p g bp bm M M' n : Nat} {es : List En} {cv : Value} {hp hp' : Nat → Bool} (h : IsLes w p g bp bm M n es cv hp) (ht : Touch (fun k => k = bm) w w') (hm : HeldM w' bm M' es.length (fun k => -atE es k) hp') : IsLes w' p g bp bm M' n es cv hp' := by
  refine ⟨h.blk.touch ht (blk_ne_map h.blk h.held), h.places.touch ht fun k hk e => ?_, hm⟩
  obtain ⟨cur, hb⟩ := h.places.blk hk
  exact blk_ne_map hb h.held e

theorem IsLes.mono {w : World} {p g bp bm M M' n : Nat} {es : List En} {cv : Value} {hp : Nat → Bool} (h : IsLes w p g bp bm M n es cv hp) (hM : M ≤ M') : IsLes w p g bp bm M' n es cv hp := by
  obtain ⟨h1, h2, m, D, h3, h4, h5⟩ := h
  exact ⟨h1, h2, m, D, h3, by omega, h5⟩

theorem at_rev {es : List En} {k : Nat} {e : En} (h : es.reverse[k]? = some e) : atE es k = e.lit := by
  unfold atE
  rw [if_neg (by omega)]
  simp only [Int.toNat_natCast]
  rw [List.getD_eq_getElem?_getD, ← List.map_reverse, List.getElem?_map, h]
  rfl

/-- A false literal's place. -/
theorem nat_pred {x : Int} {u : Nat} (h : u = x.natAbs - 1) (h1 : 1 ≤ x.natAbs) : (x.natAbs : Int) - 1 = (u : Int) := by omega
theorem wf_of_abs {x : Int} {n : Nat} (h : x.natAbs ≤ n) (h1 : n ≤ 5000) : (Lit.int .i64 x).wf = true := by
  simp [Lit.wf, IntKind.min, IntKind.max, IntKind.signed, IntKind.bits]; omega

theorem val_false {n : Nat} {es : List En} {x : Int} (h : valE n es x = -1) : ∃ e, look es (x.natAbs - 1) = some e ∧ e.lit = -x ∧ atE es (posV es (x.natAbs - 1)) = -x ∧ posV es (x.natAbs - 1) < es.length := by
  unfold valE at h
  split at h
  · next hx =>
    cases hl : look es (x.natAbs - 1) with
    | none => rw [hl] at h; cases h
    | some e =>
      rw [hl] at h
      simp only at h
      split at h
      · cases h
      · next hne =>
        have h2 := (look_some hl).2
        have h3 : e.lit = -x := by omega
        exact ⟨e, rfl, h3, by rw [at_rev (posV_at hl), h3], posV_lt hl⟩
  · cases h

set_option maxHeartbeats 2000000 in
theorem take_any {w0 w : World} {X : Nat → Prop} {L : List (Nat × TrD)} {g n p bp bm M : Nat} {es : List En} {cv : Value} {hp : Nat → Bool} (l : List Int) (but place : Int) (ao : Option Addr) (cap : Nat) (hT : Trails w0 w X L) (i : Nat) (hL : L[i]? = some (g, trE n es)) (hg : Good n es) (hn : n ≤ 5000)
    (hS : IsLes w p g bp bm M n es cv hp) (hl : l.length ≤ 5000) (hM : M ≤ 10000000)
    (hc : 0 < l.length → ∃ b off, ao = some ⟨b, off, none⟩ ∧ b < w.heap.size ∧ ∀ j (h : j < l.length), w.cell? ⟨b, off + j, none⟩ = some (.int .i64 l[j])) :
    Calls Try.prog 44 #[.pointer (some ⟨p, 0, none⟩), .slice ao l.length cap, .int .i64 but, .int .i64 place] w fun e w' => e = .returned (.int .i64 (takeC n es l but place hp).1) ∧
      IsLes w' p g bp bm (M + l.length) n es cv (takeC n es l but place hp).2 ∧ Touch (fun k => k = bm) w w' := by
  have hbm := hS.held.lt
  obtain ⟨ao', cap', e1, _, _, hfp⟩ := hS.places.form
  have hpl : ∀ w', Below w.heap.size w w' → ∀ u, u < n → w'.cell? ⟨bp, u, none⟩ = some (.int .i64 (posV es u)) := fun w' h u hu => by
    obtain ⟨b', o', e2, hcc, _, hbl⟩ := hfp (by omega)
    subst e2
    injection e1 with e1 _ _
    injection e1 with e1
    injection e1 with e1 e4
    subst e1 e4
    have h1 := hcc u (by simp [inC, placesE_len]; omega)
    rw [placesE_get _ _ _ hu, Nat.zero_add] at h1
    exact (World.cell?_of_block (w := w) (h.block bp hbl)).trans h1
  have hcl : ∀ w', Below w.heap.size w w' → 0 < l.length → ∃ b off, ao = some ⟨b, off, none⟩ ∧ b < w.heap.size ∧ ∀ j (h : j < l.length), w'.cell? ⟨b, off + j, none⟩ = some (.int .i64 l[j]) := fun w' h h0 => by
    obtain ⟨b, off, e, hbl, hcell⟩ := hc h0
    exact ⟨b, off, e, hbl, fun j hj => (World.cell?_of_block (w := w) (h.block b hbl)).trans (hcell j hj)⟩
  have HK := Lib.hid (lknown_any l ao cap hT i hL hn hS (by omega) hc)
  have HCt : Hid (∀ w', Below w.heap.size w w' → Calls Try.prog 59 #[.slice ao l.length cap, .int .i64 but] w' fun e w'' => e = .returned (.bool (l.any fun x => x == but)) ∧ w' = w'') := Lib.hid fun w' h => contains_anyK but l ao cap w' (by omega) (fun h0 => let ⟨b, off, e, _, hh⟩ := hcl w' h h0; ⟨b, off, e, hh⟩)
  have HV : Hid (∀ w' x, Below w.heap.size w w' → I64 x → Calls Try.prog 51 #[.pointer (some ⟨g, 0, none⟩), .int .i64 x] w' fun e w'' => e = .returned (.int .i64 (valE n es x)) ∧ w' = w'') := Lib.hid fun w' x h hx => value_eq (hT.below h) i hL hn x hx _ rfl
  have HS := Lib.hid hS
  have HP := Lib.hid hpl
  have HC := Lib.hid hcl
  clear hfp e1 hpl hcl hc hT hS
  change Calls Try.prog 44 #[.pointer (some ⟨p, 0, none⟩), .slice ao l.length cap, .int .i64 but, .int .i64 place] w fun e w' => e = .returned (.int .i64 (takeC n es l but place hp).1) ∧ IsLes w' p g bp bm (M + l.length) n es cv (takeC n es l but place hp).2 ∧ Touch (fun k => k = bm) w w'
  by_cases hkn : knownB n l = false
  · have hd : takeC n es l but place hp = (1, hp) := by simp only [takeC, if_pos hkn]
    rw [hd]
    unfold knownB at hkn
    rw [hkn] at HK
    clear hd hkn
    go_enter Try.func44, Try.ntmps44
    go_wp2_with (go_at_call 66; refine HK.out.mono ?_; rintro e w1 ⟨rfl, hB1⟩)
    go_ret
    exact ⟨rfl, (HS.out.below hB1).mono (by omega), Touch.of_below hB1 _⟩
  · have hkn2 : knownB n l = true := by cases h : knownB n l <;> simp_all
    have hkl : ∀ x ∈ l, 1 ≤ x.natAbs ∧ x.natAbs ≤ n := fun x hx => by
      have := List.all_eq_true.1 hkn2 x hx
      simpa using this
    have hkn3 := hkn2
    unfold knownB at hkn3
    rw [hkn3] at HK
    have HKL := Lib.hid hkl
    clear hkn3 hkl
    by_cases hbt : but ≠ 0 ∧ (l.any fun x => x == but) = false
    · have hd : takeC n es l but place hp = (7, hp) := by simp only [takeC, if_neg hkn, if_pos hbt]
      rw [hd]
      obtain ⟨hb0, hb1⟩ := hbt
      rw [hb1] at HCt
      have hb2 : (but != 0) = true := by simpa using hb0
      clear hd hkn hkn2 hb1 hb0
      go_enter Try.func44, Try.ntmps44
      go_wp2_with (first
        | (go_at_call 66; refine HK.out.mono ?_; rintro e w1 ⟨rfl, hB1⟩)
        | (go_at_call 59; refine (HCt.out _ hB1).mono ?_; rintro e w2 ⟨rfl, rfl⟩))
      go_ret
      exact ⟨rfl, (HS.out.below hB1).mono (by omega), Touch.of_below hB1 _⟩
    · generalize hres : takeC n es l but place hp = res
      have hres2 : res = if l.all (okT n es but place) = false then (7, hp) else (0, addH es l but hp) := by rw [← hres]; simp only [takeC, if_neg hkn, if_neg hbt]
      obtain ⟨r1, r2⟩ := res
      have HRes := Lib.hid hres2
      have hcase : (but != 0) = false ∨ ((but != 0) = true ∧ (l.any fun x => x == but) = true) := by
        by_cases h : but = 0
        · exact .inl (by simpa using h)
        · refine .inr ⟨by simpa using h, ?_⟩
          cases h2 : (l.any fun x => x == but) with
          | true => rfl
          | false => exact absurd ⟨h, h2⟩ hbt
      clear hres hres2 hbt hkn hkn2
      simp only
      go_enter Try.func44, Try.ntmps44
      go_upto_region 3 with (go_at_call 66; refine HK.out.mono ?_; rintro e w1 ⟨rfl, hB1⟩)
      have H1 := Lib.hid hB1
      go_cut [25] from 18 (fun s25 wx => s25 = .bool false ∧ wx = w1)
      case first =>
        rcases hcase with hb | ⟨hb, hct⟩
        · go_wp2_with fail
          go_meet
          case rel => exact ⟨rfl, rfl⟩
        · rw [hct] at HCt
          clear hct
          go_wp2_with (go_at_call 59; refine (HCt.out _ H1.out).mono ?_; rintro e w2 ⟨rfl, rfl⟩)
          go_meet
          case rel => exact ⟨rfl, rfl⟩
      case rest =>
        obtain ⟨rfl, rfl⟩ := hcut
        clear hcase HCt HK hB1
        go_wp2_with fail
        go_loopw [28] (fun x wr => ∃ k : Nat, k ≤ l.length ∧ x = .int .i64 k ∧ (l.take k).all (okT n es but place) = true ∧ Below w.heap.size w wr) (fun x _ => l.length - (intOf x).toNat)
        case atStart => exact ⟨0, by omega, rfl, rfl, H1.out⟩
        case round =>
          obtain ⟨k, hk, rfl, hok, hB⟩ := hrel
          by_cases hlt : k < l.length
          · obtain ⟨b, off, rfl, _, hcell⟩ := HC.out wr hB (by omega)
            have hck := hcell k hlt
            have hki : (k : Int) < (l.length : Int) := by omega
            have hxk := HKL.out l[k] (List.getElem_mem _)
            have htk := List.take_succ_eq_append_getElem hlt
            have hmem : l[k] ∈ l := List.getElem_mem _
            generalize l[k] = x at *
            have HB := Lib.hid hB
            have HTK := Lib.hid htk
            have HOK := Lib.hid hok
            have HMem := Lib.hid hmem
            by_cases hxb : x = but
            · have hx1 : (x == but) = true := by simpa using hxb
              have hnext : (l.take (k + 1)).all (okT n es but place) = true := by
                rw [htk, List.all_append, hok]
                simp [okT, hxb]
              have HN := Lib.hid hnext
              clear hxb hnext hcell htk hok hmem hB
              go_wp2_with fail
              go_roundw
              case rel => exact ⟨k + 1, by omega, by go_num, HN.out, HB.out⟩
              case measure => simp [intOf]; omega
            · have hx1 : (x == but) = false := by simpa using hxb
              obtain ⟨u, hu⟩ : ∃ u, u = x.natAbs - 1 := ⟨_, rfl⟩
              have HLv : Hid (∀ m, Calls Try.prog 42 #[.int .i64 x] (wr.drewN m) fun e w'' => e = .returned (.int .i64 (u : Int)) ∧ w'' = wr.drewN m) := Lib.hid fun m => by
                have h := lvar_any x (wr.drewN m) (by omega) (by omega)
                have e : ((x.natAbs : Int) - 1) = (u : Int) := by omega
                rw [e] at h
                exact h.mono fun _ _ hh => ⟨hh.1, hh.2.symm⟩
              have hpu := HP.out wr hB u (by omega)
              have hbk := HS.out.blk.below hB HS.out.blk.lt
              have hp2 := hbk.cell 2
              have hp0 := hbk.cell 0
              simp at hp2 hp0
              have hui : (u : Int) < (n : Int) := by omega
              have hI : I64 x := ⟨by omega, by omega⟩
              have HV2 : Hid (∀ m, Calls Try.prog 51 #[.pointer (some ⟨g, 0, none⟩), .int .i64 x] (wr.drewN m) fun e w'' => e = .returned (.int .i64 (valE n es x)) ∧ wr.drewN m = w'') := Lib.hid fun m => HV.out (wr.drewN m) x (bel_drewN hB m) hI
              have hokx : okT n es but place x = (decide (valE n es x = -1) && decide ((posV es u : Int) < place)) := by
                unfold okT
                rw [← hu]
                simp [hxb]
              have HOX := Lib.hid hokx
              generalize valE n es x = z at *
              generalize posV es u = pu at *
              have hbadr : okT n es but place x = false → r1 = 7 ∧ r2 = hp := fun h => by
                have h2 := HRes.out
                have h3 : l.all (okT n es but place) = false := by
                  cases h4 : l.all (okT n es but place) with
                  | false => rfl
                  | true =>
                    have := List.all_eq_true.1 h4 x hmem
                    rw [h] at this
                    cases this
                rw [if_pos h3] at h2
                injection h2 with h2 h3
                exact ⟨h2, h3⟩
              by_cases hz : z = -1
              · by_cases hpp : (pu : Int) < place
                · have hnext : (l.take (k + 1)).all (okT n es but place) = true := by
                    rw [htk, List.all_append, hok]
                    simp [hokx, hz, hpp]
                  have HN := Lib.hid hnext
                  have hz1 : (z == -1) = true := by simpa using hz
                  have hz2 : (z != -1) = false := by simpa using hz
                  have hp4 : ¬ place ≤ (pu : Int) := by omega
                  have hp5 : decide (place ≤ (pu : Int)) = false := by simpa using hp4
                  clear hbadr hnext hxb hcell htk hok hmem hB hbk hxk hu hI hokx hz
                  go_wp2_with fail
                  go_quiet (first | (go_at_call 42; exact Calls.quiet_of_same (HLv.out _)))
                  go_wp2_with (go_at_call 51; refine (HV2.out _).mono ?_; rintro e w' ⟨rfl, rfl⟩)
                  go_roundw
                  case rel => exact ⟨k + 1, by omega, by go_num, HN.out, bel_drewN HB.out nq⟩
                  case measure => simp [intOf]; omega
                · obtain ⟨rfl, rfl⟩ := hbadr (by rw [hokx]; simp [hpp])
                  have hz1 : (z == -1) = true := by simpa using hz
                  have hz2 : (z != -1) = false := by simpa using hz
                  have hp4 : place ≤ (pu : Int) := by omega
                  clear hbadr hxb hcell htk hok hmem hB hbk hxk hu hI hokx hz
                  go_wp2_with fail
                  go_quiet (first | (go_at_call 42; exact Calls.quiet_of_same (HLv.out _)))
                  go_wp2_with (go_at_call 51; refine (HV2.out _).mono ?_; rintro e w' ⟨rfl, rfl⟩)
                  go_ret
                  exact ⟨rfl, (HS.out.below (bel_drewN HB.out nq)).mono (by omega), Touch.of_below (bel_drewN HB.out nq) _⟩
              · obtain ⟨rfl, rfl⟩ := hbadr (by rw [hokx]; simp [hz])
                have hz1 : (z == -1) = false := by simpa using hz
                have hz2 : (z != -1) = true := by simpa using hz
                clear hbadr hxb hcell htk hok hmem hB hbk hxk hu hI hokx hz
                go_wp2_with fail
                go_quiet (first | (go_at_call 42; exact Calls.quiet_of_same (HLv.out _)))
                go_wp2_with (go_at_call 51; refine (HV2.out _).mono ?_; rintro e w' ⟨rfl, rfl⟩)
                go_ret
                exact ⟨rfl, (HS.out.below (bel_drewN HB.out nq)).mono (by omega), Touch.of_below (bel_drewN HB.out nq) _⟩
          · obtain rfl : k = l.length := by omega
            rw [List.take_length] at hok
            have hr : r1 = 0 ∧ r2 = addH es l but hp := by
              have h2 := HRes.out
              rw [if_neg (by rw [hok]; simp)] at h2
              injection h2 with h2 h3
              exact ⟨h2, h3⟩
            obtain ⟨rfl, rfl⟩ := hr
            have HOK := Lib.hid hok
            have HB := Lib.hid hB
            clear hok hB HRes
            go_wp2_with fail
            go_loopw [58] (fun x wr => ∃ k : Nat, k ≤ l.length ∧ x = .int .i64 k ∧ IsLes wr p g bp bm (M + k) n es cv (addH es (l.take k) but hp) ∧ Touch (fun k => k = bm) w wr) (fun x _ => l.length - (intOf x).toNat)
            case atStart =>
              refine ⟨0, by omega, rfl, ?_, Touch.of_below HB.out _⟩
              have e0 : addH es (l.take 0) but hp = hp := by funext j; simp [addH]
              rw [e0]
              exact HS.out.below HB.out
            case round =>
              obtain ⟨k, hk2, rfl, hS2, hT2⟩ := hrel
              by_cases hlt2 : k < l.length
              · obtain ⟨b, off, e0, hbl, hcell⟩ := HC.out w (Below.refl _ _) (by omega)
                have hck0 := hcell k hlt2
                have hck := (hT2.cell (p := ⟨b, off + k, none⟩) hbl (cell_ne_map hck0 HS.out.held)).trans hck0
                have hki : (k : Int) < (l.length : Int) := by omega
                have hxk := HKL.out l[k] (List.getElem_mem _)
                have hokx := List.all_eq_true.1 HOK.out l[k] (List.getElem_mem _)
                have htk := List.take_succ_eq_append_getElem hlt2
                generalize l[k] = x at *
                subst e0
                have HS2 := Lib.hid hS2
                have HT2 := Lib.hid hT2
                by_cases hxb : x = but
                · have hnext : addH es (l.take (k + 1)) but hp = addH es (l.take k) but hp := by
                    funext j
                    simp only [addH, htk, List.any_append, List.any_cons, List.any_nil]
                    simp [hxb]
                  have hx1 : (x == but) = true := by simpa using hxb
                  have hx2 : (x != but) = false := by simpa using hxb
                  have HN := Lib.hid hnext
                  clear hxb hnext hcell htk hS2 hT2 hokx hck0
                  go_wp2_with fail
                  go_roundw
                  case rel => exact ⟨k + 1, by omega, by go_num, by rw [HN.out]; exact HS2.out.mono (by omega), HT2.out⟩
                  case measure => simp [intOf]; omega
                · have hx2 : (x != but) = true := by simpa using hxb
                  have hx3 : (x == but) = false := by simpa using hxb
                  have hval : valE n es x = -1 := by
                    unfold okT at hokx
                    simp only [Bool.or_eq_true, decide_eq_true_eq, Bool.and_eq_true] at hokx
                    rcases hokx with h | h
                    · exact absurd h hxb
                    · exact h.1
                  obtain ⟨e, hlk, hel, hat, hpl2⟩ := val_false hval
                  obtain ⟨u, hu⟩ : ∃ u, u = x.natAbs - 1 := ⟨_, rfl⟩
                  rw [← hu] at hat hpl2
                  obtain ⟨pu, hpu⟩ : ∃ pu, pu = posV es u := ⟨_, rfl⟩
                  have hnext : addH es (l.take (k + 1)) but hp = fun j => decide (j = pu) || addH es (l.take k) but hp j := by
                    funext j
                    simp only [addH, htk, List.any_append, List.any_cons, List.any_nil, ← hu, ← hpu]
                    have hd1 : decide (x ≠ but) = true := by simpa using hxb
                    rw [hd1]
                    have hd2 : decide (pu = j) = decide (j = pu) := by simp [eq_comm]
                    rw [hd2]
                    cases hp j <;> cases decide (j = pu) <;> simp
                  rw [← hpu] at hat hpl2
                  obtain ⟨W, hW⟩ : ∃ W, W = wr.drew := ⟨_, rfl⟩
                  have hBW : Below wr.heap.size wr W := by rw [hW]; exact bel_drewN (Below.refl _ _) 1
                  have hSW := hS2.below hBW
                  obtain ⟨ao2, cap2, e1, _, _, hf2⟩ := hSW.places.form
                  obtain ⟨b2, o2, e2, hcc, _, _⟩ := hf2 (by omega)
                  subst e2
                  injection e1 with e1 e3 e4
                  injection e1 with e1
                  injection e1 with e1 e5
                  subst e1 e5 e4
                  have hcu := hcc u (by simp [inC, placesE_len]; omega)
                  rw [placesE_get _ _ _ (by omega), Nat.zero_add, ← hpu] at hcu
                  have hp2 := hSW.blk.cell 2
                  have hp3 := hSW.blk.cell 3
                  simp at hp2 hp3
                  have HLv : Hid (Calls Try.prog 42 #[.int .i64 x] W fun e w'' => e = .returned (.int .i64 (u : Int)) ∧ w'' = W) := Lib.hid (by
                    have h := lvar_any x W (by omega) (by omega)
                    have e := nat_pred hu hxk.1
                    rw [e] at h
                    exact h.mono fun _ _ hh => ⟨hh.1, hh.2.symm⟩)
                  have hui : (u : Int) < (n : Int) := by omega
                  have hwx := wf_of_abs hxk.2 hn
                  have hlen := hg.len_le
                  have hwp : (Lit.int .i64 (pu : Int)).wf = true := by simp [Lit.wf, IntKind.min, IntKind.max, IntKind.signed, IntKind.bits]; omega
                  obtain ⟨m, D, hown, hmM, hD1, hD2⟩ := hSW.held
                  have HN := Lib.hid hnext
                  have HSW := Lib.hid hSW
                  have HBW := Lib.hid hBW
                  have HD1 := Lib.hid hD1
                  have HD2 := Lib.hid hD2
                  have HAt := Lib.hid hat
                  clear hxb hnext hcell htk hS2 hT2 hokx hck0 hval hlk hel hu hpu hSW hBW hcc hf2 hD1 hD2 hat
                  go_upto_region 17 with fail
                  refine wp_region_still_tail 13 (by kernel_rfl) (by kernel_rfl) ?_
                  change wpStill _ _ (World.drew wr) (fun a' => wpList _ _ _ _ a' (World.drew wr)) _ _
                  rw [← hW]
                  clear hW
                  simp only [List.take_succ_cons, List.take_zero, List.drop_succ_cons, List.drop_zero]
                  repeat still_step
                  still_call HLv.out
                  repeat still_step
                  refine wpStill_nil ?_
                  go_wp2_with (at_mapUpdate; go_loud (refine wpList_mapUpdate_own _ rfl (.tmp 68) (.tmp 76) (.tmp 77) 71 rfl 3 3 (int_keyed Try.underlying3) Try.underlying71 (plainElem Try.prog 3) bm m D rfl hown (by simp only [maxLen]; omega) (.int .i64 pu) (.int .i64 x) (.int .i64 pu) rfl rfl (keyOf_int_mk Try.underlying3 hwp) (.lit (.int .i64 x)) [] (plainElem_int Try.underlying3 hwx) ?_); intro w3 hown3 hg3)
                  go_roundw
                  case rel =>
                    have ht3 : Touch (fun k => k = bm) W w3 := Touch.of_grown hg3 fun k hk => by injection hk with hk; exact hk.symm
                    have hneg : -atE es pu = x := by rw [HAt.out]; omega
                    have hown4 := hown3
                    rw [← hneg] at hown4
                    have hh := held_put (M := M + k) (len := es.length) (f := fun k => -atE es k) pu (owns_isMap hown) hown4 hmM hpl2 HD1.out HD2.out
                    refine ⟨k + 1, by omega, by go_num, ?_, (HT2.out.trans (Touch.of_below HBW.out _) fun _ _ h => h).trans ht3 fun _ _ h => h⟩
                    rw [HN.out]
                    exact HSW.out.turned ht3 hh
                  case measure => simp [intOf]; omega
              · obtain rfl : k = l.length := by omega
                rw [List.take_length] at hS2
                have HS2 := Lib.hid hS2
                have HT2 := Lib.hid hT2
                clear hS2 hT2
                go_wp2_with fail
                go_ret
                exact ⟨rfl, HS2.out, HT2.out⟩

end Go.Proofs.Ythinopiobihmaaa
