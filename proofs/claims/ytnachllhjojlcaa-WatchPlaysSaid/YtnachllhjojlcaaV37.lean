/- A watcher, and the document's one, side by side, with whatever else. -/
import Derived.Test.YtnachllhjojlcaaV35
namespace Go.Proofs.Ytnachllhjojlcaa
open Go.ChangeShapes Go.WideShapes Go.ChangeAt Go.RowKit Go.Maps Go.Deep
set_option maxRecDepth 100000

theorem On.imp {W w : World} {A B : Ast} (h : On W w A) (hi : ∀ F, A w F → B w F) : On W w B := by
  obtain ⟨F, a, f, b⟩ := h
  exact ⟨F, hi F a, f, b⟩
theorem and_swap {X Y Z : Ast} {w : World} {F : Nat → Prop} (h : ((X.and Y).and Z) w F) : ((X.and Z).and Y) w F := by
  obtain ⟨Fa, Fz, ⟨Fx, Fy, x, y, d, e⟩, z, d2, e2⟩ := h
  refine ⟨fun k => Fx k ∨ Fz k, Fy, ⟨Fx, Fz, x, z, fun k h1 h2 => d2 k ((e k).2 (.inl h1)) h2, fun k => Iff.rfl⟩, y, fun k h1 h2 => ?_, fun k => ?_⟩
  · rcases h1 with h1 | h1
    · exact d k h1 h2
    · exact d2 k ((e k).2 (.inr h2)) h1
  · rw [e2, e]
    constructor
    · rintro ((h | h) | h)
      · exact .inl (.inl h)
      · exact .inr h
      · exact .inl (.inr h)
    · rintro ((h | h) | h)
      · exact .inl (.inl h)
      · exact .inr h
      · exact .inl (.inr h)
theorem and_left {X X' Y : Ast} {w : World} {F : Nat → Prop} (hx : ∀ F, X w F → X' w F) (h : (X.and Y) w F) : (X'.and Y) w F := by
  obtain ⟨Fx, Fy, x, y, d, e⟩ := h
  exact ⟨Fx, Fy, hx _ x, y, d, e⟩
theorem On.drop' {W w : World} {A B : Ast} (h : On W w (A.and B)) : On W w A := by
  obtain ⟨F, ⟨Fa, Fb, a, _, _, e⟩, f, b⟩ := h
  exact ⟨Fa, a, fun k hk => f k ((e k).2 (.inl hk)), b⟩

/-- The watcher at xa, something else, the document's trail at xt and its watcher at xr. -/
abbrev PT (E : Ast) (xa n t : Nat) (S : WS) (xr xt : Nat) (es : List En) (cl : List (List Int)) : Ast := Tri ((Emp.and (wat xa n t S)).and E) xr xt n es cl
section
variable {W w : World} {E G : Ast} {xa n t : Nat} {S S' : WS} {xr xt : Nat} {es : List En} {cl : List (List Int)}
theorem ptA (hE : Solid E) : Solid ((Emp.and (wat xa n t S)).and E) := (Solid.emp.and (Solid.wat ..)).and hE
theorem ptC (hE : Solid E) (xr xt n : Nat) (es : List En) (cl : List (List Int)) : Ctx fun X => Tri ((Emp.and X).and E) xr xt n es cl := ((triA xr xt n es cl).left hE).right Solid.emp
theorem ptSolid (hE : Solid E) : Solid (PT E xa n t S xr xt es cl) := triSolid (ptA hE) ..
/-- Something more comes in, and goes. -/
theorem pt_more (h : On W w ((PT E xa n t S xr xt es cl).and G)) : On W w (PT (E.and G) xa n t S xr xt es cl) := by
  refine h.imp fun F hF => ?_
  have h1 := and_left (fun F h => and_swap h) (and_swap hF)
  refine and_left (fun F h => and_left (fun F h => ?_) h) h1
  obtain ⟨Fa, Fg, ⟨Fx, Fe, x, e, d, q⟩, g, d2, q2⟩ := h
  refine ⟨Fx, fun k => Fe k ∨ Fg k, x, ⟨Fe, Fg, e, g, fun k h1 h2 => d2 k ((q k).2 (.inr h1)) h2, fun k => Iff.rfl⟩, fun k h1 h2 => ?_, fun k => ?_⟩
  · rcases h2 with h2 | h2
    · exact d k h1 h2
    · exact d2 k ((q k).2 (.inl h1)) h2
  · rw [q2, q]
    constructor
    · rintro ((h | h) | h)
      · exact .inl h
      · exact .inr (.inl h)
      · exact .inr (.inr h)
    · rintro (h | h | h)
      · exact .inl (.inl h)
      · exact .inl (.inr h)
      · exact .inr h
theorem pt_less (h : On W w (PT (E.and G) xa n t S xr xt es cl)) : On W w (PT E xa n t S xr xt es cl) := by
  refine On.drop' (B := G) (h.imp fun F hF => ?_)
  have h1 : ((((((Emp.and (wat xa n t S)).and E).and G).and (rtr xt n es)).and (rwt xr xt cl))) w F := by
    refine and_left (fun F h => and_left (fun F h => ?_) h) hF
    obtain ⟨Fx, Fs, x, ⟨Fe, Fg, e, g, d2, q2⟩, d, q⟩ := h
    refine ⟨fun k => Fx k ∨ Fe k, Fg, ⟨Fx, Fe, x, e, fun k h1 h2 => d k h1 ((q2 k).2 (.inl h2)), fun k => Iff.rfl⟩, g, fun k h1 h2 => ?_, fun k => ?_⟩
    · rcases h1 with h1 | h1
      · exact d k h1 ((q2 k).2 (.inr h2))
      · exact d2 k h1 h2
    · rw [q, q2]
      constructor
      · rintro (h | h | h)
        · exact .inl (.inl h)
        · exact .inl (.inr h)
        · exact .inr h
      · rintro ((h | h) | h)
        · exact .inl h
        · exact .inr (.inl h)
        · exact .inr (.inr h)
  exact and_swap (and_left (fun F h => and_swap h) h1)
theorem pt_ok (hE : Solid E) (h : On W w (PT E xa n t S xr xt es cl)) : OkS n t S := On.ok (ptC hE xr xt n es cl) h
theorem pt_add (hE : Solid E) (h : On W w (PT E xa n t S xr xt es cl)) (hn : n ≤ 60) (ht : t ≤ 999) (ao : Option Addr) (c : List Int) (cap : Nat) (hc : Ints w ao c) (hl : c.length ≤ 40) (hI : ∀ x ∈ c, I64 x) {a b : Int} (hr : addS S c = (S', a, b)) :
    Calls Try.prog 12 #[.pointer (some ⟨xa, 0, none⟩), .slice ao c.length cap] w fun e w' => e = .returned (.tuple #[.int .i64 a, .int .i64 b]) ∧ On W w' (PT E xa n (t + 1) S' xr xt es cl) := on_add' (ptC hE xr xt n es cl) h hn ht ao c cap hc hl hI hr
theorem pt_decide (hE : Solid E) (h : On W w (PT E xa n t S xr xt es cl)) (hn : n ≤ 60) (i : Int) (hi : I64 i) {r : Int} (hr : decS S i = (S', r)) :
    Calls Try.prog 13 #[.pointer (some ⟨xa, 0, none⟩), .int .i64 i] w fun e w' => e = .returned (.int .i64 r) ∧ On W w' (PT E xa n (t + 1) S' xr xt es cl) := on_decide' (ptC hE xr xt n es cl) h hn i hi hr
theorem pt_back (hE : Solid E) (h : On W w (PT E xa n t S xr xt es cl)) (hn : n ≤ 60) (ht : t ≤ 999) (i : Int) (hi : I64 i) {r : Int} (hr : backS S i = (S', r)) :
    Calls Try.prog 20 #[.pointer (some ⟨xa, 0, none⟩), .int .i64 i] w fun e w' => e = .returned (.int .i64 r) ∧ On W w' (PT E xa n (t + 1) S' xr xt es cl) := on_back' (ptC hE xr xt n es cl) h hn ht i hi hr
theorem pt_prop (hE : Solid E) (h : On W w (PT E xa n t S xr xt es cl)) (hn : n ≤ 60) (ht : t ≤ 999) {r : Int} (hr : propS S = (S', r)) :
    Calls Try.prog 14 #[.pointer (some ⟨xa, 0, none⟩)] w fun e w' => e = .returned (.int .i64 r) ∧ On W w' (PT E xa n (t + 1) S' xr xt es cl) := on_prop' (ptC hE xr xt n es cl) h hn ht hr
theorem pt_value (hE : Solid E) (h : On W w (PT E xa n t S xr xt es cl)) (hn : n ≤ 60) (i : Int) (hi : I64 i) :
    Calls Try.prog 15 #[.pointer (some ⟨xa, 0, none⟩), .int .i64 i] w fun e w' => e = .returned (.int .i64 (valE n S.es i)) ∧ w = w' := on_value (ptC hE xr xt n es cl) h hn i hi
theorem pt_level (hE : Solid E) (h : On W w (PT E xa n t S xr xt es cl)) :
    Calls Try.prog 25 #[.pointer (some ⟨xa, 0, none⟩)] w fun e w' => e = .returned (.int .i64 (hi S.es)) ∧ w = w' := on_level (ptC hE xr xt n es cl) h
theorem pt_count (hE : Solid E) (h : On W w (PT E xa n t S xr xt es cl)) :
    Calls Try.prog 23 #[.pointer (some ⟨xa, 0, none⟩)] w fun e w' => e = .returned (.int .i64 S.cl.length) ∧ w = w' := on_count (ptC hE xr xt n es cl) h
theorem pt_clause (hE : Solid E) (h : On W w (PT E xa n t S xr xt es cl)) (ht : t ≤ 1000) (i : Int) :
    Calls Try.prog 27 #[.pointer (some ⟨xa, 0, none⟩), .int .i64 i] w fun e w' => ∃ v, e = .returned v ∧ On W w' (PT (E.and (nums v (clauseS S i))) xa n t S xr xt es cl) := by
  refine (on_clause (ptC hE xr xt n es cl) h ht i).mono ?_
  rintro e w' ⟨v, rfl, o, hb, hnew⟩
  exact ⟨v, rfl, pt_more (h.new (ptSolid hE) hb (B := nums v (clauseS S i)) (F' := fun k => v.ownBlock = some k) ⟨o, fun k => Iff.rfl⟩ hnew)⟩
theorem pr_decide (hE : Solid E) (h : On W w (PT E xa n t S xr xt es cl)) (hg : Good n es) (hn : n ≤ 60) (i : Int) (hi : I64 i) {r : Int} {es' : List En} (hr : decC n es i = (r, es')) :
    Calls Try.prog 19 #[.pointer (some ⟨xt, 0, none⟩), .int .i64 i] w fun e w' => e = .returned (.int .i64 r) ∧ On W w' (PT E xa n t S xr xt es' cl) := by
  have := on_rdecide (triT (ptA hE) xr xt cl) h hg hn i hi
  rw [hr] at this
  exact this
theorem pr_back (hE : Solid E) (h : On W w (PT E xa n t S xr xt es cl)) (hg : Good n es) (hn : n ≤ 60) (i : Int) (hi : I64 i) {r : Int} {es' : List En} (hr : backC es i = (r, es')) :
    Calls Try.prog 21 #[.pointer (some ⟨xt, 0, none⟩), .int .i64 i] w fun e w' => e = .returned (.int .i64 r) ∧ On W w' (PT E xa n t S xr xt es' cl) := by
  have := on_rback (triT (ptA hE) xr xt cl) h hg hn i hi
  rw [hr] at this
  exact this
theorem pr_value (hE : Solid E) (h : On W w (PT E xa n t S xr xt es cl)) (hg : Good n es) (hn : n ≤ 60) (i : Int) (hi : I64 i) :
    Calls Try.prog 26 #[.pointer (some ⟨xt, 0, none⟩), .int .i64 i] w fun e w' => e = .returned (.int .i64 (valE n es i)) ∧ w = w' := on_rvalue (triT (ptA hE) xr xt cl) h hg hn i hi
theorem pr_cells (hE : Solid E) (h : On W w (PT E xa n t S xr xt es cl)) : w.cell? ⟨xr, 0, none⟩ = some (.pointer (some ⟨xt, 0, none⟩)) ∧ (∃ a c, w.cell? ⟨xr, 1, none⟩ = some (.slice a cl.length c)) ∧ w.cell? ⟨xt, 2, none⟩ = some (.int .i64 (hi es)) := by
  obtain ⟨F, ⟨⟨v, k1, _⟩, _⟩, _⟩ := (triT (ptA hE) xr xt cl).use h
  obtain ⟨F', ⟨vL, C, j1, j2, _⟩, _⟩ := (triW (ptA hE) xt n es).use h
  obtain ⟨a, c, e, _⟩ := j2.form
  exact ⟨j1.cell 0, ⟨a, c, by rw [← e]; exact j1.cell 1⟩, k1.cell 2⟩
end

/-- A block that nobody writes. -/
def blk (b : Nat) (ty : TypeId) (cs : Array Value) : Ast := fun w F => Blk w b ty cs ∧ ∀ k, F k ↔ k = b
theorem Solid.blk (b : Nat) (ty : TypeId) (cs : Array Value) : Solid (blk b ty cs) := ⟨fun ⟨a, e⟩ ht hG => ⟨a.touch ht (hG b ((e b).2 rfl)), e⟩, fun ⟨a, e⟩ k hk => by rw [(e k).1 hk]; exact a.lt⟩

/-- A number is set to 0. -/
theorem goes_zero {w : World} {F : Nat → Prop} {b off m cap : Nat} {l : List Int} (k : Nat) (hk : k < l.length) (h : nums (.slice (some ⟨b, off, none⟩) m cap) l w F) :
    w.frozen? ⟨b, off + k, none⟩ = false ∧ w.cell? ⟨b, off + k, none⟩ = some (.int .i64 l[k]) ∧ Goes w (w.setCell ⟨b, off + k, none⟩ (.int .i64 0)) F (nums (.slice (some ⟨b, off, none⟩) m cap) (l.set k 0)) := by
  obtain ⟨o, e⟩ := h
  obtain ⟨ao1, cap1, e1, _, _, hf⟩ := o.form
  injection e1 with e2 e3 e4
  subst e2 e3 e4
  obtain ⟨g, off', e5, hc, hfz, hlt⟩ := hf (by omega)
  simp only [Option.some.injEq, Addr.mk.injEq, and_true] at e5
  obtain ⟨rfl, rfl⟩ := e5
  have hcell := hc k (by rw [inC_len]; exact hk)
  rw [inC_getD _ _ hk] at hcell
  have ho := o.stored k (.int .i64 0)
  rw [inC_set] at ho
  have hF : F b := (e b).2 (by simp [Value.ownBlock])
  refine ⟨hfz _, by rw [hcell]; simp [List.getD, hk], F, ⟨by rw [List.length_set]; exact ho, e⟩, (Touch.refl F w).setCell (fun _ => hF) _, fun k hk => .inl hk⟩

end Go.Proofs.Ytnachllhjojlcaa
