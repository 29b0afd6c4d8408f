/- The least no: Least. Conditions: as each theorem names them. -/
import Derived.Test.YthinopiobihmaaaGr
import Derived.Test.YthinopiobihmaaaGt
namespace Go.Proofs.Ythinopiobihmaaa
open Go.ChangeShapes Go.WideShapes Go.ChangeAt Go.RowKit Go.Maps Go.Deep
set_option maxRecDepth 100000

theorem askB_none (S : Nat → Bool) : askB S (-1) = S := by
  funext j
  unfold askB
  rw [show decide ((j : Int) = -1) = false from decide_eq_false (by omega)]
  simp
theorem askB_one (S : Nat → Bool) (i : Nat) : askB S (i : Int) = askS S i := by
  funext j
  unfold askB askS
  rw [← decide_not]
  congr 1
  exact decide_eq_decide.2 (by omega)

/-! ### Sets and maps, once more -/
theorem InAt.ne_own {w : World} {bm n : Nat} {S : Nat → Bool} {e : TypeId} {s m : Nat} {v : Value} {xs : List Value} (h : InAt w bm n S) (ho : Own w e s v m xs) : some bm ≠ v.ownBlock := by
  intro e1
  obtain ⟨cur, hb⟩ := ho.blk e1.symm
  exact h.ne_blk hb rfl
theorem InAt.kept {w w' : World} {bm n : Nat} {S : Nat → Bool} {row : Option Nat} (h : InAt w bm n S) (hg : w.grownBy w' row) (hne : some bm ≠ row) : InAt w' bm n S :=
  h.touch (Touch.of_grown (F := fun k => row = some k) hg fun _ e => e) fun e => hne e.symm
/-- Items 0 to k - 1 are in. -/
def InUp (w : World) (bm k : Nat) : Prop :=
  ∃ (m : Nat) (D : DataW Unit), w.ownsMap Try.prog 3 unitElem bm m D ∧ m ≤ k ∧ ∀ j : Nat, Maps.has D (.int .i64 (j : Int)) = decide (j < k)
theorem inUp_new (w : World) : InUp (w.alloc (.map #[] 0)) w.heap.size 0 := ⟨0, .map [], World.ownsMap_made w _ _ _, Nat.le_refl _, fun k => by simp [Maps.has]⟩
theorem InUp.touch {w w' : World} {bm n : Nat} {F : Nat → Prop} (h : InUp w bm n) (ht : Touch F w w') (hF : ¬ F bm) : InUp w' bm n := by
  obtain ⟨m, D, ⟨es, clock, hb, r⟩, h2⟩ := h
  have hl : bm < w.heap.size := (Array.getElem?_eq_some_iff.1 hb).1
  exact ⟨m, D, ⟨es, clock, (ht.block bm hl hF).trans hb, r⟩, h2⟩
theorem inUp_put {w' : World} {bm m k : Nat} {D : DataW Unit} {u : DataW Unit} (hD : IsMap D) (h : w'.ownsMap Try.prog 3 unitElem bm (m + 1) (D.put (.int .i64 (k : Int)) u)) (hm : m ≤ k)
    (h1 : ∀ j : Nat, Maps.has D (.int .i64 (j : Int)) = decide (j < k)) : InUp w' bm (k + 1) := by
  refine ⟨m + 1, _, h, by omega, fun j => ?_⟩
  by_cases hjk : j = k
  · subst hjk
    rw [has_put_same hD (mkeyI _)]
    simp
  · rw [has_put_other (int_ne hjk), h1 j]
    exact decide_eq_decide.2 (by omega)
theorem InUp.all {w : World} {bm : Nat} {items : List (List (List Int))} (h : InUp w bm items.length) : InAt w bm items.length (everyS items) := by
  obtain ⟨m, D, h1, h2, h3⟩ := h
  exact ⟨m, D, h1, h2, fun k _ => h3 k⟩

/-! ### What Least answers -/
structure LOut where
  l : List Int
  steps : Int
  e : Int
def leastE (n : Nat) (base : List (List Int)) (items : List (List (List Int))) (budget : Int) : LOut :=
  if budget < (solveE n (allE base items (everyS items))).steps then ⟨[], 0, 44⟩
  else if (solveE n (allE base items (everyS items))).yes then ⟨[], (solveE n (allE base items (everyS items))).steps, 5⟩
  else if budget < (lsRun n base items items.length).used then ⟨[], 0, 44⟩
  else ⟨(lsRun n base items items.length).l.map fun i : Nat => (i : Int), (lsRun n base items items.length).used, 0⟩
def LeastPost (w : World) (o : LOut) (e : Ending) (w' : World) : Prop :=
  Below w.heap.size w w' ∧ ∃ a c, e = .returned (.tuple #[.slice a o.l.length c, .int .i64 o.steps, .int .i64 o.e]) ∧ Own w' 3 1 (.slice a o.l.length c) o.l.length (inC o.l) ∧ ∀ k, (Value.slice a o.l.length c).ownBlock = some k → w.heap.size ≤ k
theorem least_none {w w' : World} (hb : Below w.heap.size w w') (s e : Int) : LeastPost w ⟨[], s, e⟩ (.returned (.tuple #[.slice none 0 0, .int .i64 s, .int .i64 e])) w' :=
  ⟨hb, none, 0, rfl, Own.nil _ _ _, fun k hk => by simp [Value.ownBlock] at hk⟩

/-! ### Items that search.no can ask -/
structure ItOk (n : Nat) (base : List (List Int)) (items : List (List (List Int))) : Prop where
  n12 : n ≤ 12
  il : items.length ≤ 1000
  len : ∀ S, (allE base items S).length ≤ 2100
  row : ∀ S, ∀ c ∈ allE base items S, c.length ≤ 2000
abbrev musC (vars : Int) (ab : Option Addr) (nb cb : Nat) (ai : Option Addr) (ni ci : Nat) (left : Int) (bm : Nat) (rv : Value) : Array Value := #[.int .i64 vars, .slice ab nb cb, .slice ai ni ci, .int .i64 left, .map (some bm), rv]
def ansNo : Ans := ⟨false, [], 0, [], []⟩
theorem solOut_no {er : Int} (her : er ≠ 0) {w : World} {e : Ending} {w' : World} (h : Below w.heap.size w w' ∧ e = .returned (.tuple #[.agg #[.bool false, .slice none 0 0, .int .i64 0, .slice none 0 0, .slice none 0 0], .int .i64 er])) : SolOut ansNo er w e w' :=
  ⟨h.1, none, 0, none, 0, none, 0, h.2, fun h0 => absurd h0 her⟩

section
variable {n : Nat} {vars left but : Int} {base : List (List Int)} {items : List (List (List Int))} {ab ai : Option Addr} {cb ci : Nat} {av : Nat → Option Addr} {cv : Nat → Nat} {aI : Nat → Option Addr} {cI : Nat → Nat} {avI : Nat → Nat → Option Addr} {cvI : Nat → Nat → Nat} {g bm : Nat} {rv : Value} {S : Nat → Bool} {w : World}
theorem no_err {er : Int} (her : er ≠ 0) (hk : ItOk n base items) (hG : Blk w g 51 (musC vars ab base.length cb ai items.length ci left bm rv)) (hR : IsRows w ab base av cv) (hI : IsItems w ai items aI cI avI cvI) (hS : InAt w bm items.length S)
    (hsol : ∀ w' ao cap av cv, Below w.heap.size w w' → IsRows w' ao (allE base items (askB S but)) av cv → Calls Try.prog 17 #[.int .i64 vars, .slice ao (allE base items (askB S but)).length cap, .int .i64 left] w' fun e w'' => Below w'.heap.size w' w'' ∧ e = .returned (.tuple #[.agg #[.bool false, .slice none 0 0, .int .i64 0, .slice none 0 0, .slice none 0 0], .int .i64 er])) :
    Calls Try.prog 24 #[.pointer (some ⟨g, 0, none⟩), .int .i64 but] w fun e w' => e = .returned (.tuple #[.bool false, .int .i64 er]) ∧ Below w.heap.size w w' := by
  refine (no_any vars left but er ansNo base items ab ai cb ci av cv aI cI avI cvI g bm rv S w hG hR hI hS (Nat.le_trans hk.il (by decide)) (Nat.le_trans (hk.len _) (by decide)) (fun w' ao cap av cv h1 h2 => (hsol w' ao cap av cv h1 h2).mono fun e w'' h => solOut_no her h) (fun h => absurd h her) (fun h => absurd h her)).mono ?_
  rintro e w' (⟨_, h1, h2⟩ | ⟨h, _⟩ | ⟨h, _⟩)
  · exact ⟨h1, h2⟩
  · exact absurd h her
  · exact absurd h her
theorem no_good (hk : ItOk n base items) (hkn : KnownAll n base items) (hG : Blk w g 51 (musC n ab base.length cb ai items.length ci left bm rv)) (hR : IsRows w ab base av cv) (hI : IsItems w ai items aI cI avI cvI) (hS : InAt w bm items.length S)
    (hl : ((solveE n (allE base items (askB S but))).steps : Int) ≤ left ∧ left ≤ 1099511627776) :
    Calls Try.prog 24 #[.pointer (some ⟨g, 0, none⟩), .int .i64 but] w
      (NoPost w g items.length 0 (solveE n (allE base items (askB S but))) (fun l r => musC n ab base.length cb ai items.length ci l bm r) left rv (restI n base items (askB S but))) := by
  have hak := all_known (S := askB S but) hkn
  refine (no_any n left but 0 (solveE n (allE base items (askB S but))) base items ab ai cb ci av cv aI cI avI cvI g bm rv S w hG hR hI hS (Nat.le_trans hk.il (by decide)) (Nat.le_trans (hk.len _) (by decide)) (fun w' ao cap av cv h1 h2 => ?_) (fun _ => by omega) (fun _ hy => ?_)).mono fun e w' h => h
  · refine (solve_good hk.n12 h2 (hk.len _) (hk.row _) hak left hl).mono ?_
    rintro e w'' ⟨h3, a1, c1, a2, c2, a3, c3, h4, h5⟩
    exact ⟨h3, a1, c1, a2, c2, a3, c3, h4, fun _ => h5⟩
  · obtain ⟨h1, h2⟩ := solve_fit hak hy
    exact ⟨h1, h2, Nat.le_trans (bonds_len hk.n12 hak) (by decide)⟩
/-- A yes. -/
theorem no_yes (hk : ItOk n base items) (hkn : KnownAll n base items) (hG : Blk w g 51 (musC n ab base.length cb ai items.length ci left bm rv)) (hR : IsRows w ab base av cv) (hI : IsItems w ai items aI cI avI cvI) (hS : InAt w bm items.length S)
    (hl : ((solveE n (allE base items (askB S but))).steps : Int) ≤ left ∧ left ≤ 1099511627776) (hy : (solveE n (allE base items (askB S but))).yes = true) :
    Calls Try.prog 24 #[.pointer (some ⟨g, 0, none⟩), .int .i64 but] w fun e w' => e = .returned (.tuple #[.bool false, .int .i64 0]) ∧ Touch (fun k => k = g) w w' ∧ Blk w' g 51 (musC n ab base.length cb ai items.length ci (left - (solveE n (allE base items (askB S but))).steps) bm rv) := by
  refine (no_good hk hkn hG hR hI hS hl).mono ?_
  rintro e w' (⟨h, _⟩ | ⟨_, _, h1, h2, h3⟩ | ⟨_, h, _⟩)
  · exact absurd rfl h
  · exact ⟨h1, h2, h3⟩
  · rw [hy] at h; cases h
/-- A no. -/
theorem no_no (hk : ItOk n base items) (hkn : KnownAll n base items) (hG : Blk w g 51 (musC n ab base.length cb ai items.length ci left bm rv)) (hR : IsRows w ab base av cv) (hI : IsItems w ai items aI cI avI cvI) (hS : InAt w bm items.length S)
    (hl : ((solveE n (allE base items (askB S but))).steps : Int) ≤ left ∧ left ≤ 1099511627776) (hy : (solveE n (allE base items (askB S but))).yes = false) :
    Calls Try.prog 24 #[.pointer (some ⟨g, 0, none⟩), .int .i64 but] w fun e w' => e = .returned (.tuple #[.bool true, .int .i64 0]) ∧ Touch (fun k => k = g) w w' ∧ ∃ gr, w.heap.size ≤ gr ∧ Blk w' g 51 (musC n ab base.length cb ai items.length ci (left - (solveE n (allE base items (askB S but))).steps) bm (.slice (some ⟨gr, 0, none⟩) items.length items.length)) ∧ Blk w' gr 4 (boR (restI n base items (askB S but)) items.length).toArray := by
  refine (no_good hk hkn hG hR hI hS hl).mono ?_
  rintro e w' (⟨h, _⟩ | ⟨_, h, _⟩ | ⟨_, _, h1, h2, h3⟩)
  · exact absurd rfl h
  · rw [hy] at h; cases h
  · exact ⟨h1, h2, h3⟩
end

end Go.Proofs.Ythinopiobihmaaa

namespace Go.Proofs.Ythinopiobihmaaa
open Go.ChangeShapes Go.WideShapes Go.ChangeAt Go.RowKit Go.Maps Go.Deep
set_option maxRecDepth 100000

/-- What Least holds in memory. -/
structure LsAt (w wr : World) (vars : Int) (base : List (List Int)) (items : List (List (List Int))) (ab ai : Option Addr) (cb ci : Nat) (budget : Int) (g bm gr : Nat) (st : Ls) : Prop where
  own : Blk wr g 51 (musC vars ab base.length cb ai items.length ci (budget - st.used) bm (.slice (some ⟨gr, 0, none⟩) items.length items.length))
  in_ : InAt wr bm items.length st.S
  rests : Blk wr gr 4 (boR st.R items.length).toArray
  below : Below w.heap.size w wr
  new : w.heap.size ≤ g ∧ w.heap.size ≤ bm ∧ w.heap.size ≤ gr
/-- What it has kept so far. -/
structure KeptAt (w wr : World) (a : Option Addr) (m c : Nat) (l : List Nat) : Prop where
  len : m = l.length
  own : Own wr 3 1 (.slice a m c) m (inC (l.map fun i : Nat => (i : Int)))
  new : ∀ k, (Value.slice a m c).ownBlock = some k → w.heap.size ≤ k
section
variable {w wr w' : World} {vars : Int} {base : List (List Int)} {items : List (List (List Int))} {ab ai : Option Addr} {cb ci : Nat} {budget : Int} {g bm gr : Nat} {st : Ls} {a : Option Addr} {m c : Nat} {l : List Nat}
theorem LsAt.ne (h : LsAt w wr vars base items ab ai cb ci budget g bm gr st) : bm ≠ g ∧ bm ≠ gr ∧ g ≠ gr := ⟨h.in_.ne_blk h.own, h.in_.ne_blk h.rests, h.own.ne_ h.rests (by decide)⟩
theorem KeptAt.touch {F : Nat → Prop} (h : KeptAt w wr a m c l) (ht : Touch F wr w') (hF : ∀ k, (Value.slice a m c).ownBlock = some k → ¬ F k) : KeptAt w w' a m c l := ⟨h.len, h.own.touch ht hF, h.new⟩
/-- Behind delete. -/
theorem LsAt.del {S' : Nat → Bool} (h : LsAt w wr vars base items ab ai cb ci budget g bm gr st) (ht : Touch (fun k => k = bm) wr w') (hi : InAt w' bm items.length S') : LsAt w w' vars base items ab ai cb ci budget g bm gr ⟨st.l, S', st.R, st.used⟩ := by
  obtain ⟨n1, n2, n3⟩ := h.ne
  exact ⟨h.own.touch ht (fun e => n1 e.symm), hi, h.rests.touch ht (fun e => n2 e.symm), h.below.trans (ht.below h.below.size fun x hx e => by have := h.new.2.1; omega), h.new⟩
theorem kept_del {D : Nat → Bool} (h : KeptAt w wr a m c l) (hi : InAt wr bm items.length D) (ht : Touch (fun k => k = bm) wr w') : KeptAt w w' a m c l :=
  h.touch ht fun k hk e => hi.ne_own h.own (by rw [hk, show k = bm from e])
theorem kept_blk {t : TypeId} {cs : Array Value} (h : KeptAt w wr a m c l) (hg : Blk wr g t cs) (hne : 3 ≠ t) (ht : Touch (fun k => k = g) wr w') : KeptAt w w' a m c l :=
  h.touch ht fun k hk e => h.own.ne_blk hg hne (by rw [hk, show k = g from e])
/-- Behind search.no, a yes. -/
theorem LsAt.yes {u : Nat} (h : LsAt w wr vars base items ab ai cb ci budget g bm gr st) (ht : Touch (fun k => k = g) wr w') (hb : Blk w' g 51 (musC vars ab base.length cb ai items.length ci (budget - st.used - u) bm (.slice (some ⟨gr, 0, none⟩) items.length items.length))) (l' : List Nat) :
    LsAt w w' vars base items ab ai cb ci budget g bm gr ⟨l', st.S, st.R, st.used + u⟩ := by
  obtain ⟨n1, n2, n3⟩ := h.ne
  refine ⟨?_, h.in_.touch ht n1, h.rests.touch ht (fun e => n3 e.symm), h.below.trans (ht.below h.below.size fun x hx e => by have := h.new.1; omega), h.new⟩
  rw [show budget - ((st.used + u : Nat) : Int) = budget - st.used - u by omega]
  exact hb
/-- Behind search.no, a no. -/
theorem LsAt.no {u gr' : Nat} {R' : Nat → Bool} (h : LsAt w wr vars base items ab ai cb ci budget g bm gr st) (ht : Touch (fun k => k = g) wr w') (hgr : wr.heap.size ≤ gr') (hb : Blk w' g 51 (musC vars ab base.length cb ai items.length ci (budget - st.used - u) bm (.slice (some ⟨gr', 0, none⟩) items.length items.length))) (hr : Blk w' gr' 4 (boR R' items.length).toArray) :
    LsAt w w' vars base items ab ai cb ci budget g bm gr' ⟨st.l, st.S, R', st.used + u⟩ := by
  obtain ⟨n1, n2, n3⟩ := h.ne
  refine ⟨?_, h.in_.touch ht n1, hr, h.below.trans (ht.below h.below.size fun x hx e => by have := h.new.1; omega), h.new.1, h.new.2.1, Nat.le_trans h.below.size hgr⟩
  rw [show budget - ((st.used + u : Nat) : Int) = budget - st.used - u by omega]
  exact hb
/-- Behind an append to what is kept. -/
theorem LsAt.grown {v : Value} {m' : Nat} {xs : List Value} {o : Obj} (h : LsAt w wr vars base items ab ai cb ci budget g bm gr st) (ho : Own wr 3 1 v m' xs) (hn : ∀ k, v.ownBlock = some k → w.heap.size ≤ k) (hg : (wr.alloc o).grownBy w' v.ownBlock) : LsAt w w' vars base items ab ai cb ci budget g bm gr st := by
  have hb := (Below.refl wr.heap.size wr).alloc (Nat.le_refl _) o
  have e1 := ho.ne_blk h.own (by decide)
  have e2 := ho.ne_blk h.rests (by decide)
  have e3 := h.in_.ne_own ho
  refine ⟨(h.own.alloc o).grown hg (fun e => e1 e.symm), (h.in_.below hb).kept hg e3, (h.rests.alloc o).grown hg (fun e => e2 e.symm), ?_, h.new⟩
  have h1 := h.below.alloc h.below.size o
  exact h1.grown hg h1.size fun k e => hn k e
theorem KeptAt.snoc {a2 : Option Addr} {c2 : Nat} {o : Obj} {i : Nat} (h : KeptAt w wr a m c l) (hb : Below w.heap.size w wr) (hg : (wr.alloc o).grownBy w' (Value.slice a m c).ownBlock) (hat : (Value.slice a2 (m + 1) c2).ownBlock = (Value.slice a m c).ownBlock ∨ (Value.slice a2 (m + 1) c2).ownBlock = some (wr.alloc o).heap.size)
    (ho : Own w' 3 1 (.slice a2 (m + 1) c2) (m + 1) (inC (l.map fun i : Nat => (i : Int)) ++ [.int .i64 (i : Int)])) : KeptAt w w' a2 (m + 1) c2 (l ++ [i]) := by
  refine ⟨by rw [h.len, List.length_append]; rfl, ?_, (out_snoc hb h.new hg hat).1⟩
  rw [List.map_append, in_app]
  exact ho
end

/-- What is left to do, when Least asks of item k. -/
theorem ls_step_no {n : Nat} {base : List (List Int)} {items : List (List (List Int))} {k : Nat} {st : Ls} (h : lsRun n base items k = st) (hr : st.R k = false) : lsRun n base items (k + 1) = ⟨st.l, askS st.S k, st.R, st.used⟩ := by
  show lsStep n base items (lsRun n base items k) k = _
  rw [h]
  unfold lsStep
  rw [hr]
  rfl
theorem ls_step_yes {n : Nat} {base : List (List Int)} {items : List (List (List Int))} {k : Nat} {st : Ls} (h : lsRun n base items k = st) (hr : st.R k = true) (hy : (solveE n (allE base items (askS st.S k))).yes = true) : lsRun n base items (k + 1) = ⟨st.l ++ [k], st.S, st.R, st.used + (solveE n (allE base items (askS st.S k))).steps⟩ := by
  show lsStep n base items (lsRun n base items k) k = _
  rw [h]
  unfold lsStep
  rw [if_pos hr, if_pos hy]
theorem ls_step_go {n : Nat} {base : List (List Int)} {items : List (List (List Int))} {k : Nat} {st : Ls} (h : lsRun n base items k = st) (hr : st.R k = true) (hy : (solveE n (allE base items (askS st.S k))).yes = false) : lsRun n base items (k + 1) = ⟨st.l, askS st.S k, restI n base items (askS st.S k), st.used + (solveE n (allE base items (askS st.S k))).steps⟩ := by
  show lsStep n base items (lsRun n base items k) k = _
  rw [h]
  unfold lsStep
  rw [if_pos hr, if_neg (by rw [hy]; decide)]
theorem ls_len (n : Nat) (base : List (List Int)) (items : List (List (List Int))) : ∀ k : Nat, (lsRun n base items k).l.length ≤ k
  | 0 => Nat.le_refl _
  | k + 1 => by
    have ih := ls_len n base items k
    show (lsStep n base items (lsRun n base items k) k).l.length ≤ _
    unfold lsStep
    split
    · split
      · rw [List.length_append]
        simp
        exact ih
      · exact Nat.le_succ_of_le ih
    · exact Nat.le_succ_of_le ih
theorem ls_le {n : Nat} {base : List (List Int)} {items : List (List (List Int))} {i j : Nat} (h : i ≤ j) : (lsRun n base items i).used ≤ (lsRun n base items j).used := by
  induction j with
  | zero => rw [show i = 0 by omega]; exact Nat.le_refl _
  | succ j ih =>
    by_cases e : i = j + 1
    · rw [e]; exact Nat.le_refl _
    · exact Nat.le_trans (ih (by omega)) (ls_mono j)
theorem least_44 {n : Nat} {base : List (List Int)} {items : List (List (List Int))} {budget : Int} {k : Nat} (hk : k < items.length) {st : Ls} (h : lsRun n base items k = st) (hr : st.R k = true) (hl : budget - st.used < (solveE n (allE base items (askS st.S k))).steps) (h0 : ((solveE n (allE base items (everyS items))).steps : Int) ≤ budget) (hy0 : (solveE n (allE base items (everyS items))).yes = false) : leastE n base items budget = ⟨[], 0, 44⟩ := by
  have h1 : (lsRun n base items (k + 1)).used = st.used + (solveE n (allE base items (askS st.S k))).steps := by
    cases hy : (solveE n (allE base items (askS st.S k))).yes with
    | true => rw [ls_step_yes h hr hy]
    | false => rw [ls_step_go h hr hy]
  have h2 := ls_le (n := n) (base := base) (items := items) (show k + 1 ≤ items.length by omega)
  unfold leastE
  rw [if_neg (by omega), if_neg (by rw [hy0]; decide), if_pos (by omega)]
theorem least_ok {n : Nat} {base : List (List Int)} {items : List (List (List Int))} {budget : Int} {st : Ls} (h : lsRun n base items items.length = st) (hu : (st.used : Int) ≤ budget) (h0 : ((solveE n (allE base items (everyS items))).steps : Int) ≤ budget) (hy0 : (solveE n (allE base items (everyS items))).yes = false) : leastE n base items budget = ⟨st.l.map fun i : Nat => (i : Int), st.used, 0⟩ := by
  unfold leastE
  rw [if_neg (by omega), if_neg (by rw [hy0]; decide), h, if_neg (by omega)]

set_option maxHeartbeats 4000000 in
theorem least_any (vars budget : Int) (o : LOut) (base : List (List Int)) (items : List (List (List Int))) (ab ai : Option Addr) (cb ci : Nat) (av : Nat → Option Addr) (cv : Nat → Nat) (aI : Nat → Option Addr) (cI : Nat → Nat) (avI : Nat → Nat → Option Addr) (cvI : Nat → Nat → Nat) (w : World)
    (hR : IsRows w ab base av cv) (hI : IsItems w ai items aI cI avI cvI) (hk : ItOk 0 base items)
    (hF : (∃ er : Int, er ≠ 0 ∧ o = ⟨[], 0, er⟩ ∧ ∀ w' ao cap av cv, Below w.heap.size w w' → IsRows w' ao (allE base items (everyS items)) av cv → Calls Try.prog 17 #[.int .i64 vars, .slice ao (allE base items (everyS items)).length cap, .int .i64 budget] w' fun e w'' => Below w'.heap.size w' w'' ∧ e = .returned (.tuple #[.agg #[.bool false, .slice none 0 0, .int .i64 0, .slice none 0 0, .slice none 0 0], .int .i64 er])) ∨
      (∃ n : Nat, vars = n ∧ n ≤ 12 ∧ KnownAll n base items ∧ 0 ≤ budget ∧ budget ≤ 1099511627776 ∧ ((solveE n (allE base items (everyS items))).steps : Int) ≤ budget ∧ o = leastE n base items budget)) :
    Calls Try.prog 12 #[.int .i64 vars, .slice ab base.length cb, .slice ai items.length ci, .int .i64 budget] w (LeastPost w o) := by
  have hmm : ∀ W : World, Sem.run Try.prog (Instr.makeMap 49 none) W = .ok (.map (some W.heap.size)) (W.alloc (.map #[] 0)) := fun W => run_makeMap 49 W
  have HR := Lib.hid hR
  have HI := Lib.hid hI
  have HK := Lib.hid hk
  have HF := Lib.hid hF
  have hil := hk.il
  clear hR hI hk hF
  go_enter Try.func12, Try.ntmps12
  go_wp2_with fail
  obtain ⟨bm, hbm⟩ : ∃ bm, bm = w.heap.size := ⟨_, rfl⟩
  obtain ⟨g, hg⟩ : ∃ g, g = w.heap.size + 1 := ⟨_, rfl⟩
  obtain ⟨w1, hw1⟩ : ∃ w1, w1 = (w.alloc (Obj.map #[] 0)).alloc (.cells (musC vars ab base.length cb ai items.length ci budget bm (.slice none 0 0)) 51) := ⟨_, rfl⟩
  have hG1 : Blk w1 g 51 (musC vars ab base.length cb ai items.length ci budget bm (.slice none 0 0)) := by
    have h := Blk.new (w.alloc (Obj.map #[] 0)) 51 (musC vars ab base.length cb ai items.length ci budget bm (.slice none 0 0))
    rw [← hw1, show (w.alloc (Obj.map #[] 0)).heap.size = g by rw [hg]; simp] at h
    exact h
  have hU1 : InUp w1 bm 0 := by
    rw [hw1, hbm]
    exact (inUp_new w).touch ((Touch.refl (fun _ => False) _).alloc _) (fun f => f)
  have hB1 : Below w.heap.size w w1 := by
    rw [hw1]
    have h := (Below.refl w.heap.size w).alloc (Nat.le_refl _) (Obj.map #[] 0)
    exact h.alloc h.size _
  have HN := Lib.hid (show w.heap.size ≤ g ∧ w.heap.size ≤ bm ∧ bm ≠ g from ⟨by omega, by omega, by omega⟩)
  rw [← hg, ← hbm, ← hw1]
  have HG1 := Lib.hid hG1
  have HU1 := Lib.hid hU1
  have HB1 := Lib.hid hB1
  clear hbm hg hw1 hG1 hU1 hB1 hmm
  go_loopw [26] (fun i wr => ∃ k : Nat, k ≤ items.length ∧ i = .int .i64 k ∧ Hid (InUp wr bm k) ∧ Hid (Touch (fun x => x = bm) w1 wr)) (fun i _ => items.length - (intOf i).toNat)
  case atStart => exact ⟨0, by omega, rfl, HU1, Lib.hid (Touch.refl _ _)⟩
  case round =>
    obtain ⟨k, hk, rfl, HU, HT⟩ := hrel
    have HGr := Lib.hid (HG1.out.touch HT.out (fun e => HN.out.2.2 (show g = bm from e).symm))
    obtain ⟨⟨c0, c1, c2⟩, c3, c4, c5⟩ := six_cells HGr.out
    by_cases hlt : k < items.length
    · have hki : (k : Int) < (items.length : Int) := by omega
      have HKy := Lib.hid (key_nat (show k ≤ 1000000 by omega))
      obtain ⟨m, D, hown, hm, hhas⟩ := HU.out
      have HHas := Lib.hid hhas
      have HD := Lib.hid (mowns_isMap hown)
      have hm2 : m ≤ 1000 := by omega
      clear hhas
      go_wp2_with (first
        | (at_mapUpdate; refine wpList_mapUpdate_own _ rfl (.tmp 32) (.tmp 33) (.tmp 34) 49 rfl 3 52 (int_keyed Try.underlying3) Try.underlying49 unitElem bm m D rfl hown (by simp only [maxLen]; omega) (.int .i64 (k : Int)) (.agg #[]) (.int .i64 (k : Int)) rfl rfl HKy.out (.agg []) [] unitElem_mk ?_; intro w2 hown2 hg2)
        | fail)
      go_roundw
      case rel => exact ⟨k + 1, by omega, by go_num, Lib.hid (inUp_put HD.out hown2 hm HHas.out), Lib.hid (HT.out.trans (Touch.of_grown hg2 fun k e => by injection e with e; exact e.symm) (fun _ _ h => h))⟩
      case measure => simp [intOf]; omega
    · obtain rfl : k = items.length := by omega
      have hbr : Below w.heap.size w wr := HB1.out.trans (HT.out.below HB1.out.size fun x hx e => by have h1 := HN.out.2.1; have e2 : x = bm := e; omega)
      have HBr := Lib.hid hbr
      have HIn := Lib.hid HU.out.all
      clear hbr HU HU1 HG1 c0 c1 c2 c3 c4 c5 hlt hk
      rcases HF.out with ⟨er, her, ho, hsol⟩ | ⟨n, hvn, hn, hkn, hb0, hb1, hst, ho⟩
      · have hno := no_err (but := -1) her HK.out HGr.out (HR.out.below HBr.out) (HI.out.below HBr.out) HIn.out (fun w' ao cap av cv h1 h2 => by
          rw [askB_none] at h2 ⊢
          exact hsol w' ao cap av cv (bel_new HBr.out HBr.out.size h1) h2)
        have hd : (er != 0) = true := by simpa using her
        have HO := Lib.hid ho
        have HNo := Lib.hid hno
        clear hno ho hsol her
        go_wp2_with (first
          | (go_at_call 24; (with_reducible refine HNo.out.mono ?_); rintro e w5 ⟨rfl, hb5⟩)
          | fail)
        go_ret3
        rw [HO.out]
        exact least_none (bel_new HBr.out HBr.out.size hb5) _ _
      · subst hvn
        have hkn2 : ItOk n base items := ⟨hn, HK.out.il, HK.out.len, HK.out.row⟩
        have HKN := Lib.hid hkn
        have HK2 := Lib.hid hkn2
        have HO := Lib.hid ho
        have HSt := Lib.hid hst
        clear hkn hkn2 ho HF HK
        obtain ⟨s0, hs0⟩ : ∃ s0, s0 = (solveE n (allE base items (everyS items))).steps := ⟨_, rfl⟩
        have hsb : (s0 : Int) ≤ budget := by rw [hs0]; exact hst
        have HS0 := Lib.hid hs0
        clear hs0 hst
        by_cases hy : (solveE n (allE base items (everyS items))).yes = true
        · have hno := no_yes (but := -1) HK2.out HKN.out HGr.out (HR.out.below HBr.out) (HI.out.below HBr.out) HIn.out (by rw [askB_none, ← HS0.out]; exact ⟨hsb, hb1⟩) (by rw [askB_none]; exact hy)
          rw [askB_none, ← HS0.out] at hno
          have ho : o = ⟨[], s0, 5⟩ := by
            rw [HO.out]
            unfold leastE
            rw [if_neg (by have := HSt.out; omega), if_pos hy, ← HS0.out]
          have HO2 := Lib.hid ho
          have HNo := Lib.hid hno
          have hwr : IntKind.i64.wrap (budget - (budget - (s0 : Int))) = s0 := by rw [IntKind.wrap_i64]; omega
          clear hno ho hy HO
          go_upto_region 11 with (first
            | (go_at_call 24; (with_reducible refine HNo.out.mono ?_); rintro e w5 ⟨rfl, ht5, hg5⟩)
            | fail)
          obtain ⟨⟨c0, c1, c2⟩, c3, c4, c5⟩ := six_cells hg5
          go_quiet (fail)
          go_wp2_with fail
          go_ret3
          rw [HO2.out]
          exact least_none (bel_drewN (HBr.out.trans (ht5.below HBr.out.size fun x hx e => by have h1 := HN.out.1; have e2 : x = g := e; omega)) _) _ _
        · have hy2 : (solveE n (allE base items (everyS items))).yes = false := by simpa using hy
          have hno := no_no (but := -1) HK2.out HKN.out HGr.out (HR.out.below HBr.out) (HI.out.below HBr.out) HIn.out (by rw [askB_none, ← HS0.out]; exact ⟨hsb, hb1⟩) (by rw [askB_none]; exact hy2)
          rw [askB_none, ← HS0.out] at hno
          have HNo := Lib.hid hno
          have HY := Lib.hid hy2
          obtain ⟨i3, hi3, hz0, hz1, hz2⟩ := info_parts (P := Try.prog) (e := 3) (z := .int .i64 0) (size := 1) (bytes := 8) (by kernel_rfl)
          clear hno hy hy2
          go_upto_region 12 with (first
            | (go_at_call 24; (with_reducible refine HNo.out.mono ?_); rintro e w5 ⟨rfl, ht5, gr0, hgr0, hg5, hk5⟩)
            | fail)
          have hls : LsAt w w5 n base items ab ai cb ci budget g bm gr0 (lsRun n base items 0) := ⟨by rw [show (lsRun n base items 0).used = s0 from HS0.out.symm]; exact hg5, HIn.out.touch ht5 HN.out.2.2, hk5, HBr.out.trans (ht5.below HBr.out.size fun x hx e => by have h1 := HN.out.1; have e2 : x = g := e; omega), HN.out.1, HN.out.2.1, Nat.le_trans HBr.out.size hgr0⟩
          have HLs := Lib.hid hls
          have HS := Lib.hid (show ((lsRun n base items 0).used : Int) ≤ budget by rw [show (lsRun n base items 0).used = s0 from HS0.out.symm]; exact hsb)
          clear ht5 hgr0 hg5 hk5 hls HNo
          go_wp2_with fail
          go_loopw [8, 56] (fun l i wr => ∃ (k m c gr : Nat) (a : Option Addr) (st : Ls), k ≤ items.length ∧ i = .int .i64 k ∧ l = .slice a m c ∧ Hid (lsRun n base items k = st ∧ (st.used : Int) ≤ budget) ∧ Hid (LsAt w wr n base items ab ai cb ci budget g bm gr st) ∧ Hid (KeptAt w wr a m c st.l)) (fun _ i _ => items.length - (intOf i).toNat)
          case atStart => exact ⟨0, 0, 0, gr0, none, _, by omega, rfl, rfl, Lib.hid ⟨rfl, HS.out⟩, HLs, Lib.hid ⟨rfl, Own.nil _ _ _, fun k hk => by simp [Value.ownBlock] at hk⟩⟩
          case round =>
            obtain ⟨k, m, c, gr, a, st, hk, rfl, rfl, HRun, HL, HKp⟩ := hrel
            obtain ⟨⟨c0, c1, c2⟩, c3, c4, c5⟩ := six_cells HL.out.own
            by_cases hlt : k < items.length
            · have hki : (k : Int) < (items.length : Int) := by omega
              have HKy := Lib.hid (key_nat (show k ≤ 1000000 by omega))
              have hck : wr.cell? ⟨gr, k, none⟩ = some (.bool (st.R k)) := by
                rw [HL.out.rests.cell k]
                simp [boR, hlt]
              have hbL := HL.out.below
              have HRl := Lib.hid (HR.out.below hbL)
              have HIl := Lib.hid (HI.out.below hbL)
              clear hbL
              cases hr : st.R k with
              | false =>
                rw [hr] at hck
                have HStep := Lib.hid (ls_step_no HRun.out.1 hr)
                obtain ⟨md, D, hown, hmd, hhas⟩ := HL.out.in_
                have HHas := Lib.hid hhas
                clear hhas hr
                go_wp2_with (first
                  | (at_delete; go_loud (refine wpList_delete_own _ rfl _ _ 49 3 rfl 52 (int_keyed Try.underlying3) Try.underlying49 unitElem bm md D rfl hown _ _ rfl HKy.out ?_); intro w8 hown8 hturn8)
                  | fail)
                go_roundw
                case rel =>
                  have ht8 : Touch (fun x => x = bm) wr w8 := Touch.of_grown hturn8.grown fun x hx => by injection hx with hx; exact hx.symm
                  exact ⟨k + 1, m, c, gr, a, _, by omega, by go_num, rfl, Lib.hid ⟨HStep.out, HRun.out.2⟩, Lib.hid (HL.out.del ht8 (in_del hown8 hmd HHas.out)), Lib.hid (kept_del HKp.out HL.out.in_ ht8)⟩
                case measure => simp [intOf]; omega
              | true =>
                rw [hr] at hck
                have HRk := Lib.hid hr
                clear hr
                obtain ⟨s, hs⟩ : ∃ s, s = (solveE n (allE base items (askS st.S k))).steps := ⟨_, rfl⟩
                have HSs := Lib.hid hs
                clear hs
                have hu := HRun.out.2
                by_cases hle : (s : Int) ≤ budget - st.used
                · cases hyk : (solveE n (allE base items (askS st.S k))).yes with
                  | true =>
                    have hno := no_yes (but := (k : Int)) HK2.out HKN.out HL.out.own HRl.out HIl.out HL.out.in_ (by rw [askB_one, ← HSs.out]; exact ⟨hle, by omega⟩) (by rw [askB_one]; exact hyk)
                    rw [askB_one, ← HSs.out] at hno
                    have hstep := ls_step_yes HRun.out.1 HRk.out hyk
                    rw [← HSs.out] at hstep
                    have HStep := Lib.hid hstep
                    have HNo := Lib.hid hno
                    clear hno hyk hstep
                    have hone := in_one (st.l.map fun i : Nat => (i : Int))
                    have hm3 : m ≤ 1000 := by
                      have h1 := HKp.out.len
                      have h2 := ls_len n base items k
                      rw [HRun.out.1] at h2
                      omega
                    go_wp2_with (first
                      | (go_at_call 24; (with_reducible refine HNo.out.mono ?_); rintro e w6 ⟨rfl, ht6, hg6⟩
                         have HL6 := Lib.hid (HL.out.yes ht6 hg6 (st.l ++ [k]))
                         have HK6 := Lib.hid (kept_blk HKp.out HL.out.own (by decide) ht6)
                         have HO6 := Lib.hid (HK6.out.own.alloc (.cells #[.int .i64 (k : Int)] 3))
                         clear ht6 hg6)
                      | (at_builtin; go_loud (refine wpList_append_S _ rfl (.tmp 77) (.tmp 79) _ _ rfl 3 i3 _ 1 8 Try.underlying26 hi3 hz0 hz1 hz2 rfl (by omega) (.slice a m c) m (inC (st.l.map fun i : Nat => (i : Int))) rfl HO6.out hone _ 1 [.int .i64 (k : Int)] rfl (src_new w6 Try.underlying26 3 _ rfl) (by simp only [maxLen]; omega) (by omega) ?_); intro ao2 cap2 w7 hn7 hm7 hown7 hg7 hat7 hlt7
                         have HG7 := Lib.hid hg7
                         have HA7 := Lib.hid hat7
                         have HO7 := Lib.hid hown7
                         clear hg7 hat7 hlt7 hn7 hm7 hown7)
                      | fail)
                    go_roundw
                    case rel =>
                      exact ⟨k + 1, m + 1, cap2, gr, ao2, _, by omega, by go_num, rfl, Lib.hid ⟨HStep.out, by show ((st.used + s : Nat) : Int) ≤ budget; omega⟩, Lib.hid (HL6.out.grown HK6.out.own HK6.out.new HG7.out), Lib.hid (HK6.out.snoc HL6.out.below HG7.out HA7.out HO7.out)⟩
                    case measure => simp [intOf]; omega
                  | false =>
                    have hno := no_no (but := (k : Int)) HK2.out HKN.out HL.out.own HRl.out HIl.out HL.out.in_ (by rw [askB_one, ← HSs.out]; exact ⟨hle, by omega⟩) (by rw [askB_one]; exact hyk)
                    rw [askB_one, ← HSs.out] at hno
                    have hstep := ls_step_go HRun.out.1 HRk.out hyk
                    rw [← HSs.out] at hstep
                    have HStep := Lib.hid hstep
                    have HNo := Lib.hid hno
                    clear hno hyk hstep
                    go_upto_region 17 with (first
                      | (go_at_call 24; (with_reducible refine HNo.out.mono ?_); rintro e w6 ⟨rfl, ht6, gr6, hgr6, hg6, hk6⟩)
                      | fail)
                    have HL6 := Lib.hid (HL.out.no ht6 hgr6 hg6 hk6)
                    have HK6 := Lib.hid (kept_blk HKp.out HL.out.own (by decide) ht6)
                    clear ht6 hgr6 hg6 hk6
                    obtain ⟨⟨d0, d1, d2⟩, d3, d4, d5⟩ := six_cells HL6.out.own
                    obtain ⟨md, D, hown, hmd, hhas⟩ := HL6.out.in_
                    have HHas := Lib.hid hhas
                    clear hhas
                    go_wp2_with (first
                      | (at_delete; go_loud (refine wpList_delete_own _ rfl _ _ 49 3 rfl 52 (int_keyed Try.underlying3) Try.underlying49 unitElem bm md D rfl hown _ _ rfl HKy.out ?_); intro w8 hown8 hturn8)
                      | fail)
                    go_roundw
                    case rel =>
                      have ht8 : Touch (fun x => x = bm) w6 w8 := Touch.of_grown hturn8.grown fun x hx => by injection hx with hx; exact hx.symm
                      exact ⟨k + 1, m, c, gr6, a, _, by omega, by go_num, rfl, Lib.hid ⟨HStep.out, by show ((st.used + s : Nat) : Int) ≤ budget; omega⟩, Lib.hid (HL6.out.del ht8 (in_del hown8 hmd HHas.out)), Lib.hid (kept_del HK6.out HL6.out.in_ ht8)⟩
                    case measure => simp [intOf]; omega
                · have hno := no_err (er := 44) (but := (k : Int)) (by decide) HK2.out HL.out.own HRl.out HIl.out HL.out.in_ (fun w' ao cap av cv h1 h2 => by
                    rw [askB_one] at h2 ⊢
                    exact solve_less HK2.out.n12 h2 (HK2.out.len _) (HK2.out.row _) (all_known HKN.out) _ ⟨by rw [← HSs.out]; omega, by omega, by omega⟩)
                  have ho : o = ⟨[], 0, 44⟩ := by rw [HO.out]; exact least_44 hlt HRun.out.1 HRk.out (by rw [← HSs.out]; omega) HSt.out HY.out
                  have HNo := Lib.hid hno
                  have HO2 := Lib.hid ho
                  clear hno ho
                  go_wp2_with (first
                    | (go_at_call 24; (with_reducible refine HNo.out.mono ?_); rintro e w6 ⟨rfl, hb6⟩)
                    | fail)
                  go_ret3
                  rw [HO2.out]
                  exact least_none (bel_new HL.out.below HL.out.below.size hb6) _ _
            · obtain rfl : k = items.length := by omega
              have ho : o = ⟨st.l.map fun i : Nat => (i : Int), st.used, 0⟩ := by rw [HO.out]; exact least_ok HRun.out.1 HRun.out.2 HSt.out HY.out
              have hu := HRun.out.2
              have hwr : IntKind.i64.wrap (budget - (budget - (st.used : Int))) = st.used := by rw [IntKind.wrap_i64]; omega
              have HO2 := Lib.hid ho
              have hml := HKp.out.len
              have HMl := Lib.hid hml
              clear ho hml
              go_upto_region 23 with fail
              go_quiet (fail)
              go_wp2_with fail
              go_ret3
              rw [HO2.out]
              have hl2 : (st.l.map fun i : Nat => (i : Int)).length = m := by rw [List.length_map, HMl.out]
              refine ⟨bel_drewN HL.out.below _, a, c, by rw [hl2]; rfl, ?_, ?_⟩
              · rw [hl2]; exact HKp.out.own.drewN _
              · rw [hl2]; exact HKp.out.new

end Go.Proofs.Ythinopiobihmaaa
