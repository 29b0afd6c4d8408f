/- The least no: plain and memory for MusAlone and MusRow. Conditions: as each theorem names them. -/
import Derived.Test.YthinopiobihmaaaGz
namespace Go.Proofs.Ythinopiobihmaaa
open Go.ChangeShapes Go.WideShapes Go.ChangeAt Go.RowKit Go.Maps Go.Deep
set_option maxRecDepth 100000

section
variable {n : Nat} {base : List (List Int)} {items more : List (List (List Int))}
/-- Sets that agree on the items. -/
theorem noB_on (h : KnownAll n base items) {S S' : Nat → Bool} (hs : ∀ j, j < items.length → S j = S' j) : noB n base items S = noB n base items S' :=
  noB_same h h fun c => by
    rw [mem_all, mem_all]
    refine or_congr_right ⟨?_, ?_⟩
    · rintro ⟨i, h1, h2, h3⟩
      exact ⟨i, h1, by rw [← hs i h1]; exact h2, h3⟩
    · rintro ⟨i, h1, h2, h3⟩
      exact ⟨i, h1, by rw [hs i h1]; exact h2, h3⟩
theorem mem_every {c : List Int} : c ∈ allE base items (everyS items) ↔ c ∈ base ∨ ∃ it ∈ items, c ∈ it := by
  rw [mem_all]
  refine or_congr_right ⟨?_, ?_⟩
  · rintro ⟨i, h1, _, h3⟩
    rw [List.getD_eq_getElem?_getD, List.getElem?_eq_getElem h1] at h3
    exact ⟨_, List.getElem_mem h1, h3⟩
  · rintro ⟨it, h1, h2⟩
    obtain ⟨i, hi, rfl⟩ := List.getElem_of_mem h1
    refine ⟨i, hi, by simp [everyS, hi], ?_⟩
    rw [List.getD_eq_getElem?_getD, List.getElem?_eq_getElem hi]
    exact h2
theorem yes_no (n : Nat) (base : List (List Int)) (items : List (List (List Int))) : (solveE n (allE base items (everyS items))).yes = false ↔ noB n base items (everyS items) = true := by
  rw [noB_every]
  simp
theorem every_but : ∀ j, j < items.length → everyS items j = butS (-1) j := fun j hj => by
  unfold everyS butS
  rw [decide_eq_true hj, decide_eq_false (by omega)]
  rfl
/-- What is named alone is a no. -/
theorem alone_yes (h : KnownAll n base items) (h0 : (solveE n (allE base items (everyS items))).yes = false) :
    (solveE n (allE base (pickI items (kept n base items)) (everyS (pickI items (kept n base items))))).yes = false := by
  rw [yes_no, noB_on (known_pick h kept_lt) every_but]
  exact kept_no h h0
/-- Of what is named alone all is named. -/
theorem alone_kept (h : KnownAll n base items) : kept n base (pickI items (kept n base items)) = List.range (kept n base items).length := by
  have hk := known_pick h (kept_lt (n := n) (base := base) (items := items))
  have hl := pickI_len items (kept n base items)
  obtain ⟨m, hm⟩ : ∃ m, m = (kept n base items).length := ⟨_, rfl⟩
  rw [← hm] at hl ⊢
  unfold kept at hk hl ⊢
  unfold kept at hm
  rw [hl]
  refine keepR_every (noB_mono hk) (fun k hk2 => ?_) m (Nat.le_refl _)
  rw [noB_on hk (S' := butS (k : Int)) (fun j hj => ?_)]
  · exact kept_least h (by unfold kept; rw [← hm]; exact hk2)
  · rw [hl] at hj
    unfold butS
    rw [decide_eq_true hj]
    simp only [Bool.true_and]
    rw [← decide_not]
    exact decide_eq_decide.2 (by omega)
theorem known_app (h : KnownAll n base items) (h' : KnownAll n base more) : KnownAll n base (items ++ more) :=
  known_mem.2 ⟨h.1, fun it hit => by
    rcases List.mem_append.1 hit with h1 | h1
    · exact (known_mem.1 h).2 it h1
    · exact (known_mem.1 h').2 it h1⟩
/-- With more items a no stays one. -/
theorem more_yes (h : KnownAll n base items) (h' : KnownAll n base more) (h0 : (solveE n (allE base items (everyS items))).yes = false) : (solveE n (allE base (items ++ more) (everyS (items ++ more)))).yes = false := by
  rw [yes_no, noB_iff (known_app h h')]
  rw [yes_no, noB_iff h] at h0
  refine fun A hA => h0 A fun c hc => hA c ?_
  rw [mem_every] at hc ⊢
  rcases hc with h1 | ⟨it, h1, h2⟩
  · exact .inl h1
  · exact .inr ⟨it, List.mem_append_left _ h1, h2⟩
end

/-! ### Least with the whole budget -/
def GotNo (w : World) (l : List Nat) (e : Ending) (w' : World) : Prop := Below w.heap.size w w' ∧ ∃ a c s, e = .returned (.tuple #[.slice a l.length c, .int .i64 s, .int .i64 0]) ∧ Ints w' a (natsE l)
def GotYes (w : World) (e : Ending) (w' : World) : Prop := Below w.heap.size w w' ∧ ∃ a c s, e = .returned (.tuple #[.slice a 0 c, .int .i64 s, .int .i64 5])
section
variable {n : Nat} {base : List (List Int)} {items : List (List (List Int))} {ab ai : Option Addr} {cb ci : Nat} {av : Nat → Option Addr} {cv : Nat → Nat} {aI : Nat → Option Addr} {cI : Nat → Nat} {avI : Nat → Nat → Option Addr} {cvI : Nat → Nat → Nat} {w : World}
theorem full_no (hok : ItOk n base items) (hkn : KnownAll n base items) (hR : IsRows w ab base av cv) (hI : IsItems w ai items aI cI avI cvI) (hy : (solveE n (allE base items (everyS items))).yes = false) :
    Calls Try.prog 12 #[.int .i64 n, .slice ab base.length cb, .slice ai items.length ci, .int .i64 1099511627776] w (GotNo w (kept n base items)) := by
  have hu := used_enough hkn hok.n12 hok.il
  obtain ⟨h1, h2, _⟩ := (least_full hkn (B := 1099511627776) (by omega)).2 hy
  refine (least_good hok hkn hR hI 1099511627776 (by omega)).mono fun e w' hp => ?_
  rw [lout_eq ⟨h1, h2⟩] at hp
  obtain ⟨hb, a, c, h3, h4, _⟩ := hp
  exact ⟨hb, a, c, _, by rw [natsE_len] at h3; exact h3, least_ints h4⟩
theorem full_yes (hok : ItOk n base items) (hkn : KnownAll n base items) (hR : IsRows w ab base av cv) (hI : IsItems w ai items aI cI avI cvI) (hy : (solveE n (allE base items (everyS items))).yes = true) :
    Calls Try.prog 12 #[.int .i64 n, .slice ab base.length cb, .slice ai items.length ci, .int .i64 1099511627776] w (GotYes w) := by
  have hu := used_enough hkn hok.n12 hok.il
  obtain ⟨h1, h2, _⟩ := (least_full hkn (B := 1099511627776) (by omega)).1 hy
  refine (least_good hok hkn hR hI 1099511627776 (by omega)).mono fun e w' hp => ?_
  rw [lout_eq ⟨h1, h2⟩] at hp
  obtain ⟨hb, a, c, h3, _⟩ := hp
  exact ⟨hb, a, c, _, h3⟩
end

/-! ### Items as they are put together -/
structure ItAt (w0 wr : World) (a : Option Addr) (n c : Nat) (items : List (List (List Int))) : Prop where
  len : n = items.length
  own : ∃ vals, Own wr 22 1 (.slice a n c) n vals ∧ ItemsV w0 vals items
  new : ∀ k, (Value.slice a n c).ownBlock = some k → w0.heap.size ≤ k
theorem ItAt.below {w0 wr w' : World} {a : Option Addr} {n c : Nat} {items : List (List (List Int))} (h : ItAt w0 wr a n c items) (hb : Below wr.heap.size wr w') : ItAt w0 w' a n c items := by
  obtain ⟨vals, ho, hv⟩ := h.own
  exact ⟨h.len, ⟨vals, ho.new hb, hv⟩, h.new⟩
theorem ItAt.items {w0 wr : World} {a : Option Addr} {n c : Nat} {items : List (List (List Int))} (h : ItAt w0 wr a n c items) (hb : Below w0.heap.size w0 wr) : ∃ aI cI avI cvI, IsItems wr a items aI cI avI cvI := by
  obtain ⟨vals, ho, hv⟩ := h.own
  exact items_at ho (hv.below hb) h.len
theorem ItAt.nil (w0 wr : World) : ItAt w0 wr none 0 0 [] := ⟨rfl, ⟨[], Own.nil _ _ _, ItemsV.nil _⟩, fun k hk => by simp [Value.ownBlock] at hk⟩
/-- Behind an append. -/
theorem it_app {w0 w1 w2 : World} {a a2 : Option Addr} {n m c c2 : Nat} {items more : List (List (List Int))} {vals news : List Value} (hl : n = items.length) (hv : ItemsV w0 vals items) (hn : ∀ k, (Value.slice a n c).ownBlock = some k → w0.heap.size ≤ k) (hm : m = more.length) (hd : ItemsV w0 news more)
    (hb : Below w0.heap.size w0 w1) (ho : Own w2 22 1 (.slice a2 (n + m) c2) (n + m) (vals ++ news)) (hg : w1.grownBy w2 (Value.slice a n c).ownBlock) (hat : (Value.slice a2 (n + m) c2).ownBlock = (Value.slice a n c).ownBlock ∨ (Value.slice a2 (n + m) c2).ownBlock = some w1.heap.size) :
    ItAt w0 w2 a2 (n + m) c2 (items ++ more) ∧ Below w0.heap.size w0 w2 := by
  refine ⟨⟨by rw [hl, hm, List.length_append], ⟨_, ho, hv.append hd⟩, fun k e => ?_⟩, hb.grown hg hb.size fun k e => hn k e⟩
  rcases hat with e2 | e2
  · exact hn k (e2 ▸ e)
  · rw [e2] at e
    injection e with e
    rw [← e]
    exact hb.size

end Go.Proofs.Ythinopiobihmaaa
