/- A search in memory: its struct, its clauses; add. -/
import Derived.Test.YthinopiobihmaaaGl
import Derived.Test.YthinopiobihmaaaGk
import Derived.Test.YthinopiobihmaaaGj
import Derived.Deep.LoopGhost
import Derived.Deep.RegionWith
import Derived.WalkMore
import Derived.Deep.OwnRows
import Derived.Laws.ResultCell
namespace Go.Proofs.Ythinopiobihmaaa
open Go.ChangeShapes Go.WideShapes Go.ChangeAt Go.RowKit Go.Maps Go.Deep
set_option maxRecDepth 100000

/-! ### A struct; slices of slices -/
def blkA (g : Nat) (t : TypeId) (cs : Array Value) : Ast := fun w F => Blk w g t cs ∧ ∀ k, F k ↔ k = g
theorem Solid.blkA (g : Nat) (t : TypeId) (cs : Array Value) : Solid (blkA g t cs) := ⟨fun ⟨a, e⟩ ht hG => ⟨a.touch ht (hG g ((e g).2 rfl)), e⟩, fun ⟨a, e⟩ k hk => by rw [(e k).1 hk]; exact a.lt⟩
def valsA (v : Value) (vs : List Value) : Ast := fun w F => Own w 26 1 v vs.length vs ∧ (∀ u ∈ vs, u.oneCell' = true) ∧ ∀ k, F k ↔ v.ownBlock = some k
theorem Solid.valsA (v : Value) (vs : List Value) : Solid (valsA v vs) := ⟨fun ⟨a, o, e⟩ ht hG => ⟨a.touch ht fun k hk => hG k ((e k).2 hk), o, e⟩, fun ⟨a, _, e⟩ k hk => a.lt k ((e k).1 hk)⟩
/-- A struct, and the slice of slices in one of its fields. -/
def fieldA (g : Nat) (t : TypeId) (cs : Array Value) (v : Value) (vs : List Value) : Ast := (blkA g t cs).and (valsA v vs)
theorem Solid.fieldA (g : Nat) (t : TypeId) (cs : Array Value) (v : Value) (vs : List Value) : Solid (fieldA g t cs v vs) := (Solid.blkA ..).and (Solid.valsA ..)

theorem goes_field {w wa w1 : World} {F : Nat → Prop} {g : Nat} {t : TypeId} {cs : Array Value} {v v' u : Value} {vs : List Value} (i : Nat) (h : fieldA g t cs v vs w F) (ha : Touch (fun _ => False) w wa) (hg : wa.grownBy w1 v.ownBlock) (ho : Own w1 26 1 v' (vs.length + 1) (vs ++ [u])) (hat : v'.ownBlock = v.ownBlock ∨ v'.ownBlock = some wa.heap.size) (hu : u.oneCell' = true) :
    Goes w (w1.setCell ⟨g, i, none⟩ v') F (fieldA g t (cs.setIfInBounds i v') v' (vs ++ [u])) := by
  obtain ⟨Fa, Fb, ⟨hb, ea⟩, ⟨hv, o1, eb⟩, hd, he⟩ := h
  have hgv : v.ownBlock ≠ some g := fun e => hd g ((ea g).2 rfl) ((eb g).2 e)
  have hb1 : Blk w1 g t cs := (hb.touch ha (by simp)).grown hg (Ne.symm hgv)
  have hgv' : v'.ownBlock ≠ some g := fun e => by
    rcases hat with h1 | h1
    · exact hgv (h1 ▸ e)
    · rw [h1] at e
      injection e with e
      have := (hb.touch ha (by simp)).lt
      omega
  have hT : Touch (fun k => k = g ∨ v.ownBlock = some k) w (w1.setCell ⟨g, i, none⟩ v') := (((ha.mono (G := fun k => k = g ∨ v.ownBlock = some k) fun _ _ h => h.elim).trans (Touch.of_grown (F := fun k => v.ownBlock = some k) hg fun k hk => hk)
    (fun _ _ h => .inr h)).setCell (p := ⟨g, i, none⟩) (fun _ => .inl rfl) v')
  refine ⟨fun k => k = g ∨ v'.ownBlock = some k, ⟨fun k => k = g, fun k => v'.ownBlock = some k, ⟨hb1.set_ i v', fun _ => Iff.rfl⟩, ⟨?_, fun y hy => ?_, fun _ => Iff.rfl⟩, fun k h1 h2 => ?_, fun _ => Iff.rfl⟩, hT.mono fun k _ hk => ?_, fun k hk => ?_⟩
  · have := ho.far (p := ⟨g, i, none⟩) hgv' v'
    simpa using this
  · rcases List.mem_append.1 hy with hy | hy
    · exact o1 y hy
    · rw [List.mem_singleton.1 hy]; exact hu
  · subst h1; exact hgv' h2
  · rw [he, ea, eb]; exact hk
  · rcases hk with hk | hk
    · exact .inl ((he k).2 (.inl ((ea k).2 hk)))
    · rcases hat with h1 | h1
      · exact .inl ((he k).2 (.inr ((eb k).2 (h1 ▸ hk))))
      · rw [h1] at hk
        injection hk with hk
        have := ha.size
        omega

/-- A search: watcher, struct, clauses. -/
def srch (x n t : Nat) (S : WS) (s : Nat) (cv : Value) (fr : Nat) (vs : List Value) : Ast := (wat x n t S).and (fieldA s 60 #[.pointer (some ⟨x, 0, none⟩), .int .i64 n, cv, .int .i64 fr] cv vs)
theorem Solid.srch (x n t : Nat) (S : WS) (s : Nat) (cv : Value) (fr : Nat) (vs : List Value) : Solid (srch x n t S s cv fr vs) := (Solid.wat ..).and (Solid.fieldA ..)

theorem field_grown {w wa w1 : World} {F : Nat → Prop} {g : Nat} {t : TypeId} {cs : Array Value} {v : Value} {vs : List Value} (h : fieldA g t cs v vs w F) (ha : Touch (fun _ => False) w wa) (hg : wa.grownBy w1 v.ownBlock) : Blk w1 g t cs := by
  obtain ⟨Fa, Fb, ⟨hb, ea⟩, ⟨hv, o1, eb⟩, hd, he⟩ := h
  have hgv : v.ownBlock ≠ some g := fun e => hd g ((ea g).2 rfl) ((eb g).2 e)
  exact (hb.touch ha (by simp)).grown hg (Ne.symm hgv)

theorem field_cells {w : World} {F : Nat → Prop} {g : Nat} {t : TypeId} {cs : Array Value} {v : Value} {vs : List Value} (h : fieldA g t cs v vs w F) : (∀ i, w.cell? ⟨g, i, none⟩ = cs[i]?) ∧ (∀ i, w.frozen? ⟨g, i, none⟩ = false) ∧ Own w 26 1 v vs.length vs ∧ ∀ u ∈ vs, u.oneCell' = true := by
  obtain ⟨Fa, Fb, ⟨hb, ea⟩, ⟨hv, o1, eb⟩, hd, he⟩ := h
  exact ⟨hb.cell, hb.frozen, hv, o1⟩

section
variable {W w : World} {C : Ast → Ast} {x n t s fr : Nat} {S : WS} {cv : Value} {vs : List Value}
theorem srch_w (hC : Ctx C) : Ctx fun A => C (A.and (fieldA s 60 #[.pointer (some ⟨x, 0, none⟩), .int .i64 n, cv, .int .i64 fr] cv vs)) := hC.left (Solid.fieldA ..)
theorem srch_f (hC : Ctx C) : Ctx fun A => C ((wat x n t S).and A) := hC.right (Solid.wat ..)
theorem srch_cells (hC : Ctx C) (h : On W w (C (srch x n t S s cv fr vs))) : w.cell? ⟨s, 0, none⟩ = some (.pointer (some ⟨x, 0, none⟩)) ∧ w.cell? ⟨s, 1, none⟩ = some (.int .i64 n) ∧ w.cell? ⟨s, 2, none⟩ = some cv ∧ w.cell? ⟨s, 3, none⟩ = some (.int .i64 fr) ∧ (∀ i, w.frozen? ⟨s, i, none⟩ = false) := by
  obtain ⟨F, a, _⟩ := (srch_f hC).use h
  obtain ⟨h1, h2, _⟩ := field_cells a
  have c0 := h1 0
  have c1 := h1 1
  have c2 := h1 2
  have c3 := h1 3
  simp at c0 c1 c2 c3
  exact ⟨c0, c1, c2, c3, h2⟩

set_option maxHeartbeats 1000000 in
theorem on_sadd (hC : Ctx C) (h : On W w (C (srch x n t S s cv fr vs))) (hn : n ≤ 12) (ht : t ≤ 240000) (hvs : vs.length ≤ 1000000) (ao : Option Addr) (c : List Int) (cap : Nat) (hc : Ints w ao c) (hl : c.length ≤ 2000) (hI : ∀ x ∈ c, I64 x) :
    Calls Try.prog 26 #[.pointer (some ⟨s, 0, none⟩), .slice ao c.length cap] w fun e w' => ∃ cv', e = .returned (.int .i64 (addS S c).2.2) ∧ On W w' (C (srch x n (t + 1) (addS S c).1 s cv' fr (vs ++ [.slice ao c.length cap]))) := by
  obtain ⟨iS, hiS, hs0, hs1, hs2⟩ := info_parts (P := Try.prog) (e := 26) (z := .slice none 0 0) (size := 1) (bytes := 24) (by kernel_rfl)
  have HA := Lib.hid (on_add (srch_w hC) h hn ht ao c cap hc hl hI)
  obtain ⟨c0, _⟩ := srch_cells hC h
  clear h hc
  go_enter Try.func26, Try.ntmps26
  go_wp2_with (first
    | (go_at_call 37; (with_reducible refine HA.out.mono ?_); rintro e w1 ⟨rfl, h1⟩; obtain ⟨_, _, d2, _, hfz⟩ := srch_cells hC h1; obtain ⟨F, ha, hg⟩ := (srch_f hC).use h1; have hk := field_cells ha; obtain ⟨_, _, hO, hone⟩ := hk; obtain ⟨aoV, capV, hcv, _⟩ := hO.form; subst hcv; have hT : Touch (fun _ => False) w1 (w1.alloc (.cells #[.slice ao c.length cap] 26)) := (Touch.refl _ w1).alloc _)
    | (at_builtin; go_loud (refine wpList_append_S _ rfl (.tmp 20) (.tmp 22) _ _ rfl 26 iS _ 1 24 Try.underlying22 hiS hs0 hs1 hs2 rfl (by omega) (.slice aoV vs.length capV) vs.length vs rfl (hO.alloc _) hone _ 1 [_] rfl (src_new w1 Try.underlying22 26 _ rfl) (by simp only [maxLen]; omega) (by omega) ?_); intro ao2 cap2 w2 hn1 hm1 hown1 hg1 hat1 hlt1; have hWn := field_grown ha hT hg1; have hcn := hWn.cell 2; simp at hcn; have hfn := hWn.frozen 2))
  go_ret
  exact ⟨_, rfl, hg _ _ (goes_field 2 ha hT hg1 hown1 hat1 rfl)⟩

/-- What comes next, and from where on it looked. -/
def nextC (n : Nat) (S : WS) (fr : Nat) : Int × Int × Nat :=
  if 0 ≤ (propS S).2 then (0, (propS S).2, fr) else if openFrom n (propS S).1.es (n - fr) fr < n then (1, (openFrom n (propS S).1.es (n - fr) fr : Nat), openFrom n (propS S).1.es (n - fr) fr) else (2, 0, openFrom n (propS S).1.es (n - fr) fr)

theorem goes_fr {w : World} {F : Nat → Prop} {g : Nat} {t : TypeId} {a b v u : Value} {c : Value} {vs : List Value} (h : fieldA g t #[a, b, v, c] v vs w F) : Goes w (w.setCell ⟨g, 3, none⟩ u) F (fieldA g t #[a, b, v, u] v vs) := by
  obtain ⟨Fa, Fb, ⟨hb, ea⟩, ⟨hv, o1, eb⟩, hd, he⟩ := h
  have hgv : v.ownBlock ≠ some g := fun e => hd g ((ea g).2 rfl) ((eb g).2 e)
  exact ⟨F, ⟨Fa, Fb, ⟨hb.set_ 3 u, ea⟩, ⟨hv.far hgv _, o1, eb⟩, hd, he⟩, (Touch.refl _ w).setCell (fun _ => (he g).2 (.inl ((ea g).2 rfl))) u, fun k hk => .inl hk⟩
theorem openFrom_step (n : Nat) (es : List En) (v : Nat) (h : v < n) : openFrom n es (n - v) v = if valE n es ((v : Int) + 1) = 0 then v else openFrom n es (n - (v + 1)) (v + 1) := by
  have : n - v = (n - (v + 1)) + 1 := by omega
  rw [this]
  rfl

set_option maxHeartbeats 1000000 in
theorem on_snext (hC : Ctx C) (h : On W w (C (srch x n t S s cv fr vs))) (hn : n ≤ 12) (ht : t ≤ 240000) (hfr : fr ≤ n) {what k : Int} {fr' : Nat} (hr : nextC n S fr = (what, k, fr')) :
    Calls Try.prog 27 #[.pointer (some ⟨s, 0, none⟩)] w fun e w' => e = .returned (.tuple #[.int .i64 what, .int .i64 k]) ∧ On W w' (C (srch x n (t + 1) (propS S).1 s cv fr' vs)) := by
  have HP := Lib.hid (on_prop (srch_w hC) h hn ht)
  obtain ⟨c0, _⟩ := srch_cells hC h
  unfold nextC at hr
  clear h
  by_cases h0 : 0 ≤ (propS S).2
  · rw [if_pos h0] at hr
    simp only [Prod.mk.injEq] at hr
    obtain ⟨rfl, rfl, rfl⟩ := hr
    generalize propS S = r at *
    obtain ⟨S1, c⟩ := r
    simp only at HP h0 ⊢
    have hd : decide (0 ≤ c) = true := by simpa using h0
    go_enter Try.func27, Try.ntmps27
    go_wp2_with (go_at_call 38; (with_reducible refine HP.out.mono ?_); rintro e w1 ⟨rfl, h1⟩)
    go_ret2
    exact ⟨rfl, h1⟩
  · rw [if_neg h0] at hr
    generalize propS S = r at *
    obtain ⟨S1, c⟩ := r
    simp only at HP h0 hr ⊢
    have hd : decide (0 ≤ c) = false := by simpa using h0
    have HR := Lib.hid hr
    clear hr
    go_enter Try.func27, Try.ntmps27
    go_wp2_with (go_at_call 38; (with_reducible refine HP.out.mono ?_); rintro e w1 ⟨rfl, h1⟩)
    go_loopg [] (n + 1 - fr) (fun k wr => ∃ v : Nat, v + k = n + 1 ∧ v ≤ n ∧ Hid (On W wr (C (srch x n (t + 1) S1 s cv v vs))) ∧ Hid (openFrom n S1.es (n - v) v = openFrom n S1.es (n - fr) fr) ∧ Hid (fr ≤ v))
    case atStart => exact ⟨fr, by omega, hfr, Lib.hid h1, Lib.hid rfl, Lib.hid (Nat.le_refl _)⟩
    case round =>
      obtain ⟨v, hvk, hvn, HOn, HOp, HFr⟩ := hrel
      obtain ⟨d0, d1, _, d3, dz⟩ := srch_cells hC HOn.out
      by_cases hlt : v < n
      · have hli : (v : Int) < (n : Int) := by omega
        have hop := HOp.out
        rw [openFrom_step n S1.es v hlt] at hop
        have HV : Hid (∀ w', Below wr.heap.size wr w' → ∀ m, Calls Try.prog 32 #[.pointer (some ⟨x, 0, none⟩), .int .i64 ((v : Int) + 1)] (w'.drewN m) fun e w'' => e = .returned (.int .i64 (valE n S1.es ((v : Int) + 1))) ∧ w'' = w'.drewN m) := Lib.hid fun w' hb m =>
          (on_value (srch_w hC) (HOn.out.below (hC.solid (Solid.srch ..)) (bel_drewN hb m)) hn ((v : Int) + 1) (by unfold I64; omega)).mono fun _ _ hh => ⟨hh.1, hh.2.symm⟩
        have HCell : Hid (∀ w', Below wr.heap.size wr w' → w'.cell? ⟨s, 0, none⟩ = some (.pointer (some ⟨x, 0, none⟩)) ∧ w'.cell? ⟨s, 3, none⟩ = some (.int .i64 v) ∧ w'.frozen? ⟨s, 3, none⟩ = false) := Lib.hid fun w' hb => by
          obtain ⟨d0, _, _, d3, dz⟩ := srch_cells hC (HOn.out.below (hC.solid (Solid.srch ..)) hb)
          exact ⟨d0, d3, dz 3⟩
        have HOp2 := Lib.hid hop
        generalize valE n S1.es ((v : Int) + 1) = z at *
        clear hop HOp dz
        go_upto_region 4 with fail
        go_quiet (fail)
        have hbq : Below wr.heap.size wr (wr.drewN nq) := bel_drewN (Below.refl _ _) nq
        obtain ⟨wq, hwq⟩ : ∃ wq, wq = wr.drewN nq := ⟨_, rfl⟩
        rw [← hwq] at hbq ⊢
        obtain ⟨q0, q3, _⟩ := HCell.out _ hbq
        have HVq := Lib.hid (HV.out _ hbq)
        have HBq := Lib.hid hbq
        clear hwq hbq d0 d1 d3
        go_upto_region 6 with fail
        go_quiet ((go_at_call 32; exact Calls.quiet_of_same (HVq.out _)))
        have hbp : Below wr.heap.size wr (wq.drewN nq) := bel_drewN HBq.out nq
        obtain ⟨wp, hwp⟩ : ∃ wp, wp = wq.drewN nq := ⟨_, rfl⟩
        rw [← hwp] at hbp ⊢
        obtain ⟨p0, p3, pz⟩ := HCell.out _ hbp
        have HBp := Lib.hid hbp
        clear hwp hbp q0 q3
        by_cases hz : z = 0
        · subst hz
          have hop := HOp2.out
          rw [if_pos rfl] at hop
          have hr := HR.out
          rw [← hop, if_pos hlt] at hr
          simp only [Prod.mk.injEq] at hr
          obtain ⟨rfl, rfl, rfl⟩ := hr
          clear hop HOp2
          go_upto_region 7 with fail
          go_quiet (fail)
          have hO2 := HOn.out.below (hC.solid (Solid.srch ..)) (bel_drewN HBp.out nq)
          go_wp2_with fail
          go_ret2
          exact ⟨rfl, hO2⟩
        · have hz2 : (z == 0) = false := by simpa using hz
          have hop := HOp2.out
          rw [if_neg hz] at hop
          have HOp3 := Lib.hid hop
          clear hop HOp2 hz
          have HOnp := Lib.hid (HOn.out.below (hC.solid (Solid.srch ..)) HBp.out)
          go_wp2_with fail
          go_roundg (n - v)
          case measure => omega
          case rel =>
            refine ⟨v + 1, by omega, by omega, Lib.hid ?_, HOp3, Lib.hid (by have := HFr.out; omega)⟩
            obtain ⟨F, a, hg⟩ := (srch_f hC).use HOnp.out
            exact hg _ _ (goes_fr a)
      · have hv : v = n := by omega
        subst hv
        have hr := HR.out
        have hop := HOp.out
        rw [Nat.sub_self] at hop
        simp only [openFrom] at hop
        rw [← hop, if_neg (by omega)] at hr
        simp only [Prod.mk.injEq] at hr
        obtain ⟨rfl, rfl, rfl⟩ := hr
        clear hop HOp dz
        go_upto_region 4 with fail
        go_quiet (fail)
        have hO2 := HOn.out.below (hC.solid (Solid.srch ..)) (bel_drewN (Below.refl _ _) nq)
        go_wp2_with fail
        go_ret2
        exact ⟨rfl, hO2⟩
end

end Go.Proofs.Ythinopiobihmaaa

namespace Go.Proofs.Ythinopiobihmaaa
open Go.ChangeShapes Go.WideShapes Go.ChangeAt Go.RowKit Go.Maps Go.Deep
set_option maxRecDepth 100000

theorem On.assoc {W w : World} {A B D : Ast} (h : On W w ((A.and B).and D)) : On W w (A.and (B.and D)) := by
  obtain ⟨F, ⟨Fab, Fd, ⟨Fa, Fb, a, b, d1, e1⟩, d, d2, e2⟩, f, bl⟩ := h
  refine ⟨F, ⟨Fa, fun k => Fb k ∨ Fd k, a, ⟨Fb, Fd, b, d, fun k h1 h2 => d2 k ((e1 k).2 (.inr h1)) h2, fun _ => Iff.rfl⟩, fun k h1 h2 => ?_, fun k => ?_⟩, f, bl⟩
  · rcases h2 with h2 | h2
    · exact d1 k h1 h2
    · exact d2 k ((e1 k).2 (.inl h1)) h2
  · rw [e2, e1, or_assoc]
theorem On.drop {W w : World} {A B : Ast} (h : On W w (A.and B)) : On W w A := by
  obtain ⟨F, ⟨Fa, Fb, a, b, d, e⟩, f, bl⟩ := h
  exact ⟨Fa, a, fun k hk => f k ((e k).2 (.inl hk)), bl⟩

/-! ### What was learnt, and by which clauses -/
structure Les where
  u : Value
  c : List Int
  v : Value
  b : List Int
def lesA (l : Les) : Ast := fun w F => Own w 3 1 l.u l.c.length (inC l.c) ∧ Own w 3 1 l.v l.b.length (inC l.b) ∧ (∀ k, l.u.ownBlock = some k → F k) ∧ (∀ k, l.v.ownBlock = some k → F k) ∧ ∀ k, F k → k < w.heap.size
theorem Solid.lesA (l : Les) : Solid (lesA l) := ⟨fun ⟨a, b, c, d, e⟩ ht hG => ⟨a.touch ht fun k hk => hG k (c k hk), b.touch ht fun k hk => hG k (d k hk), c, d, fun k hk => Nat.lt_of_lt_of_le (e k hk) ht.size⟩, fun ⟨_, _, _, _, e⟩ k hk => e k hk⟩
def lessA (L : List Les) : Ast := L.foldl (fun A l => A.and (lesA l)) Emp
theorem lessA_snoc (L : List Les) (l : Les) : lessA (L ++ [l]) = (lessA L).and (lesA l) := by simp [lessA]
theorem less_solid : ∀ (L : List Les) {A : Ast}, Solid A → Solid (L.foldl (fun A l => A.and (lesA l)) A)
  | [], _, h => h
  | l :: L, _, h => less_solid L (h.and (Solid.lesA l))
theorem Solid.lessA (L : List Les) : Solid (lessA L) := less_solid L Solid.emp
theorem less_mem' : ∀ (L : List Les) {A : Ast} {w : World} {F : Nat → Prop}, L.foldl (fun A l => A.and (lesA l)) A w F → (∃ F', A w F') ∧ ∀ l ∈ L, ∃ F', lesA l w F'
  | [], A, w, F, h => ⟨⟨F, h⟩, fun l hl => by cases hl⟩
  | a :: L, A, w, F, h => by
    obtain ⟨⟨F', F1, F2, h1, h2, _⟩, h3⟩ := less_mem' L (A := A.and (lesA a)) h
    refine ⟨⟨F1, h1⟩, fun l hl => ?_⟩
    rcases List.mem_cons.1 hl with rfl | hl
    · exact ⟨F2, h2⟩
    · exact h3 l hl
theorem less_mem {L : List Les} {w : World} {F : Nat → Prop} (h : lessA L w F) {l : Les} (hl : l ∈ L) : Own w 3 1 l.u l.c.length (inC l.c) ∧ Own w 3 1 l.v l.b.length (inC l.b) := by
  obtain ⟨F', a, b, _⟩ := (less_mem' L h).2 l hl
  exact ⟨a, b⟩

theorem less_sub' : ∀ (L : List Les) {A : Ast} {w : World} {F : Nat → Prop}, L.foldl (fun A l => A.and (lesA l)) A w F → (∃ F', A w F' ∧ ∀ k, F' k → F k) ∧ ∀ l ∈ L, ∃ F', lesA l w F' ∧ ∀ k, F' k → F k
  | [], A, w, F, h => ⟨⟨F, h, fun _ h => h⟩, fun l hl => by cases hl⟩
  | a :: L, A, w, F, h => by
    obtain ⟨⟨F', ⟨F1, F2, h1, h2, _, he⟩, hs⟩, h3⟩ := less_sub' L (A := A.and (lesA a)) h
    refine ⟨⟨F1, h1, fun k hk => hs k ((he k).2 (.inl hk))⟩, fun l hl => ?_⟩
    rcases List.mem_cons.1 hl with rfl | hl
    · exact ⟨F2, h2, fun k hk => hs k ((he k).2 (.inr hk))⟩
    · exact h3 l hl
theorem less_mem_sub (L : List Les) {w : World} {F : Nat → Prop} (h : lessA L w F) (l : Les) (hl : l ∈ L) : ∃ F', lesA l w F' ∧ ∀ k, F' k → F k := (less_sub' L h).2 l hl

/-! ### The given clauses -/
structure IsRows (w : World) (ao : Option Addr) (cl : List (List Int)) (av : Nat → Option Addr) (cv : Nat → Nat) : Prop where
  rows : 0 < cl.length → ∃ b off, ao = some ⟨b, off, none⟩ ∧ b < w.heap.size ∧ ∀ j (h : j < cl.length), w.cell? ⟨b, off + j, none⟩ = some (.slice (av j) cl[j].length (cv j))
  ints : ∀ j (h : j < cl.length), Ints w (av j) cl[j]
theorem IsRows.below {w w' : World} {ao : Option Addr} {cl : List (List Int)} {av : Nat → Option Addr} {cv : Nat → Nat} (h : IsRows w ao cl av cv) (hb : Below w.heap.size w w') : IsRows w' ao cl av cv := by
  refine ⟨fun h0 => ?_, fun j hj => (h.ints j hj).below hb⟩
  obtain ⟨b, off, e, hbl, hc⟩ := h.rows h0
  exact ⟨b, off, e, Nat.lt_of_lt_of_le hbl hb.size, fun j hj => (World.cell?_of_block (w := w) (hb.block b hbl)).trans (hc j hj)⟩
def rowVals (cl : List (List Int)) (av : Nat → Option Addr) (cv : Nat → Nat) : List Value := (List.range cl.length).map fun j => .slice (av j) (cl.getD j []).length (cv j)

abbrev ansC (yes : Bool) (sv : Value) (steps : Int) (fv lv : Value) : Array Value := #[.bool yes, sv, .int .i64 steps, fv, lv]

theorem rowVals_succ {cl : List (List Int)} {av : Nat → Option Addr} {cv : Nat → Nat} {k : Nat} (h : k < cl.length) : (rowVals cl av cv).take (k + 1) = (rowVals cl av cv).take k ++ [.slice (av k) cl[k].length (cv k)] := by
  have hl : k < (rowVals cl av cv).length := by simpa [rowVals] using h
  rw [List.take_succ_eq_append_getElem hl]
  simp [rowVals, List.getD_eq_getElem?_getD, h]
theorem startS_succ (n : Nat) {cl : List (List Int)} {k : Nat} (h : k < cl.length) : startS n (cl.take (k + 1)) = (addS (startS n (cl.take k)) cl[k]).1 := by
  unfold startS
  rw [List.take_succ_eq_append_getElem h, List.foldl_append]
  rfl
theorem startS_n (n : Nat) {cl : List (List Int)} (h : ∀ c ∈ cl, knownS n c = true) : (startS n cl).n = n := (start_spec n cl (newS n) (new_inv n) rfl rfl h).2.1

def boC (l : List Bool) : List Value := l.map Value.bool
/-- An answer in memory of its own. -/
structure AnsAt (w w' : World) (A : Ans) (sv fv lv : Value) : Prop where
  state : Own w' 4 1 sv A.state.length (boC A.state)
  stateNew : ∀ k, sv.ownBlock = some k → w.heap.size ≤ k
  bonds : ∃ vals, Own w' 26 1 fv A.bonds.length vals ∧ (∀ k, fv.ownBlock = some k → w.heap.size ≤ k) ∧ ∀ j (h : j < A.bonds.length), ∃ u, vals[j]? = some u ∧ Own w' 3 1 u A.bonds[j].length (inC A.bonds[j]) ∧ ∀ k, u.ownBlock = some k → w.heap.size ≤ k
  last : Own w' 3 1 lv A.last.length (inC A.last)
  lastNew : ∀ k, lv.ownBlock = some k → w.heap.size ≤ k
def SolPost (w : World) (n : Nat) (cl : List (List Int)) (budget : Int) (e : Ending) (w' : World) : Prop :=
  Below w.heap.size w w' ∧
  ((cl.all (knownS n) = false ∧ e = .returned (.tuple #[.agg (ansC false nilV 0 nilV nilV), .int .i64 1])) ∨
   (cl.all (knownS n) = true ∧ budget < (solveE n cl).steps ∧ e = .returned (.tuple #[.agg (ansC false nilV 0 nilV nilV), .int .i64 44])) ∨
   (cl.all (knownS n) = true ∧ ((solveE n cl).steps : Int) ≤ budget ∧ ∃ sv fv lv, e = .returned (.tuple #[.agg (ansC (solveE n cl).yes sv (solveE n cl).steps fv lv), .int .i64 0]) ∧ AnsAt w w' (solveE n cl) sv fv lv))

theorem blk_cells {W w : World} {C : Ast → Ast} {g : Nat} {t : TypeId} {cs : Array Value} (hC : Ctx C) (h : On W w (C (blkA g t cs))) : Blk w g t cs := by
  obtain ⟨F, a, _⟩ := hC.use h
  exact a.1
theorem goes_blk {w : World} {F : Nat → Prop} {g : Nat} {t : TypeId} {cs : Array Value} (h : blkA g t cs w F) (i : Nat) (u : Value) : Goes w (w.setCell ⟨g, i, none⟩ u) F (blkA g t (cs.setIfInBounds i u)) :=
  ⟨F, ⟨h.1.set_ i u, h.2⟩, (Touch.refl _ w).setCell (fun _ => (h.2 g).2 rfl) u, fun _ hk => .inl hk⟩

theorem results_cell2 {P : Program} {fn : Func} {p u : Tmp} {ty : TypeId} (h : fn.results = #[.cell p ty, .tmp u]) (tmps : Array Value) (w : World) (g : Nat) (t : TypeId) (cs : Array Value) (d : TypeDesc) (hp : tmps.getD p undef = .pointer (some ⟨g, 0, none⟩)) (hb : Blk w g t cs)
    (hu : P.underlying ty = some d) (hd : (match d with | .struct _ | .array _ _ => true | _ => false) = true) (hi : (P.info? ty).map (·.size) = some cs.size) :
    (results fn tmps).run P w = .ok (.tuple #[.agg cs, tmps.getD u undef]) w := by
  rw [results_cell_tmp h, hp]
  simp only [asAddr, Sem.run_pure, Result.andThen_ok]
  rw [run_loadVar_row w g t ty cs (0, 0) d hb hu hd hi]
  rfl
theorem blk_five {w : World} {g : Nat} {t : TypeId} {a b c d e p q r s u : Value} (h : Blk w g t #[p, q, r, s, u]) : Blk (((((w.setCell ⟨g, 0, none⟩ a).setCell ⟨g, 1, none⟩ b).setCell ⟨g, 2, none⟩ c).setCell ⟨g, 3, none⟩ d).setCell ⟨g, 4, none⟩ e) g t #[a, b, c, d, e] :=
  ((((h.set_ 0 a).set_ 1 b).set_ 2 c).set_ 3 d).set_ 4 e
theorem below_five {w0 w : World} {g : Nat} {a b c d e : Value} (h : Below w0.heap.size w0 w) (hg : w0.heap.size ≤ g) : Below w0.heap.size w0 (((((w.setCell ⟨g, 0, none⟩ a).setCell ⟨g, 1, none⟩ b).setCell ⟨g, 2, none⟩ c).setCell ⟨g, 3, none⟩ d).setCell ⟨g, 4, none⟩ e) := by
  have ht : Touch (fun k => k = g) w (((((w.setCell ⟨g, 0, none⟩ a).setCell ⟨g, 1, none⟩ b).setCell ⟨g, 2, none⟩ c).setCell ⟨g, 3, none⟩ d).setCell ⟨g, 4, none⟩ e) :=
    (((((Touch.refl (fun k => k = g) w).setCell (p := ⟨g, 0, none⟩) (fun _ => rfl) a).setCell (p := ⟨g, 1, none⟩) (fun _ => rfl) b).setCell (p := ⟨g, 2, none⟩) (fun _ => rfl) c).setCell (p := ⟨g, 3, none⟩) (fun _ => rfl) d).setCell (p := ⟨g, 4, none⟩) (fun _ => rfl) e
  exact h.trans (ht.below h.size fun x hx e => (show ¬ x = g from by omega) e)


theorem goes_cell {w : World} {F : Nat → Prop} {g : Nat} {t : TypeId} {cs : Array Value} {v : Value} {vs : List Value} (h : fieldA g t cs v vs w F) (i : Nat) (u : Value) : Goes w (w.setCell ⟨g, i, none⟩ u) F (fieldA g t (cs.setIfInBounds i u) v vs) := by
  obtain ⟨Fa, Fb, ⟨hb, ea⟩, ⟨hv, o1, eb⟩, hd, he⟩ := h
  have hgv : v.ownBlock ≠ some g := fun e => hd g ((ea g).2 rfl) ((eb g).2 e)
  exact ⟨F, ⟨Fa, Fb, ⟨hb.set_ i u, ea⟩, ⟨hv.far hgv _, o1, eb⟩, hd, he⟩, (Touch.refl _ w).setCell (fun _ => (he g).2 (.inl ((ea g).2 rfl))) u, fun k hk => .inl hk⟩
theorem on_five {W w : World} {C : Ast → Ast} {g : Nat} {t : TypeId} {p q r s u : Value} (hC : Ctx C) (h : On W w (C (blkA g t #[p, q, r, s, u]))) (a b c d e : Value) :
    On W (((((w.setCell ⟨g, 0, none⟩ a).setCell ⟨g, 1, none⟩ b).setCell ⟨g, 2, none⟩ c).setCell ⟨g, 3, none⟩ d).setCell ⟨g, 4, none⟩ e) (C (blkA g t #[a, b, c, d, e])) := by
  obtain ⟨F, x, hg⟩ := hC.use h
  have h1 := hg _ _ (goes_blk x 0 a)
  obtain ⟨F, x, hg⟩ := hC.use h1
  have h1 := hg _ _ (goes_blk x 1 b)
  obtain ⟨F, x, hg⟩ := hC.use h1
  have h1 := hg _ _ (goes_blk x 2 c)
  obtain ⟨F, x, hg⟩ := hC.use h1
  have h1 := hg _ _ (goes_blk x 3 d)
  obtain ⟨F, x, hg⟩ := hC.use h1
  exact hg _ _ (goes_blk x 4 e)

/-! ### The search's loop -/
def loopA (r x n t : Nat) (S : WS) (s : Nat) (cw : Value) (fr : Nat) (vs : List Value) (o : Nat) (st : Int) (fv : Value) (L : List Les) : Ast :=
  (((Emp.and (blkA r 40 (ansC false nilV 0 nilV nilV))).and (srch x n t S s cw fr vs)).and (fieldA o 40 (ansC false nilV st fv nilV) fv (L.map (·.v)))).and (lessA L)
theorem Solid.loopA (r x n t : Nat) (S : WS) (s : Nat) (cw : Value) (fr : Nat) (vs : List Value) (o : Nat) (st : Int) (fv : Value) (L : List Les) : Solid (loopA r x n t S s cw fr vs o st fv L) :=
  ((((Solid.emp.and (Solid.blkA ..)).and (Solid.srch ..)).and (Solid.fieldA ..)).and (Solid.lessA L))
section
variable {r x n t : Nat} {S : WS} {s : Nat} {cw : Value} {fr : Nat} {vs : List Value} {o : Nat} {st : Int} {fv : Value} {L : List Les} {w0 w : World}
theorem ctx_s : Ctx fun A => (((Emp.and (blkA r 40 (ansC false nilV 0 nilV nilV))).and A).and (fieldA o 40 (ansC false nilV st fv nilV) fv (L.map (·.v)))).and (lessA L) := ((Ctx.id.left (Solid.lessA L)).left (Solid.fieldA ..)).right (Solid.emp.and (Solid.blkA ..))
theorem ctx_o : Ctx fun A => (((Emp.and (blkA r 40 (ansC false nilV 0 nilV nilV))).and (srch x n t S s cw fr vs)).and A).and (lessA L) := (Ctx.id.left (Solid.lessA L)).right ((Solid.emp.and (Solid.blkA ..)).and (Solid.srch ..))
theorem ctx_r {B : Ast} (hB : Solid B) : Ctx fun A => (((Emp.and A).and (srch x n t S s cw fr vs)).and B).and (lessA L) := (((Ctx.id.left (Solid.lessA L)).left hB).left (Solid.srch ..)).right Solid.emp

theorem loop_next (h : On w0 w (loopA r x n t S s cw fr vs o st fv L)) (hn : n ≤ 12) (ht : t ≤ 240000) (hfr : fr ≤ n) {what k : Int} {fr' : Nat} (hr : nextC n S fr = (what, k, fr')) :
    Calls Try.prog 27 #[.pointer (some ⟨s, 0, none⟩)] w fun e w' => e = .returned (.tuple #[.int .i64 what, .int .i64 k]) ∧ On w0 w' (loopA r x n (t + 1) (propS S).1 s cw fr' vs o st fv L) := on_snext ctx_s h hn ht hfr hr
theorem loop_cells (h : On w0 w (loopA r x n t S s cw fr vs o st fv L)) : Blk w r 40 (ansC false nilV 0 nilV nilV) ∧ Blk w o 40 (ansC false nilV st fv nilV) ∧ Own w 26 1 fv L.length (L.map (·.v)) ∧ (∀ u ∈ L.map (·.v), u.oneCell' = true) := by
  have h1 := blk_cells (ctx_r (Solid.fieldA ..)) h
  obtain ⟨F, ⟨Fa, Fb, ⟨hb, _⟩, ⟨hv, o1, _⟩, _⟩, _⟩ := ctx_o.use h
  exact ⟨h1, hb, by simpa using hv, o1⟩
theorem loop_clauses (h : On w0 w (loopA r x n t S s cw fr vs o st fv L)) : ∃ ao cap, cw = .slice ao vs.length cap ∧ w.cell? ⟨s, 2, none⟩ = some (.slice ao vs.length cap) ∧ w.cell? ⟨s, 0, none⟩ = some (.pointer (some ⟨x, 0, none⟩)) ∧ Own w 26 1 (.slice ao vs.length cap) vs.length vs := by
  obtain ⟨c0, _, c2, _⟩ := srch_cells ctx_s h
  obtain ⟨F, a, _⟩ := (srch_f ctx_s).use h
  obtain ⟨_, _, hO, _⟩ := field_cells a
  obtain ⟨ao, cap, e, _⟩ := hO.form
  subst e
  exact ⟨ao, cap, rfl, c2, c0, hO⟩
theorem loop_les (h : On w0 w (loopA r x n t S s cw fr vs o st fv L)) {l : Les} (hl : l ∈ L) : Own w 3 1 l.u l.c.length (inC l.c) ∧ Own w 3 1 l.v l.b.length (inC l.b) := by
  obtain ⟨F, ⟨Fa, Fb, _, b, _⟩, _⟩ := h
  exact less_mem b hl
/-- One step more. -/
theorem loop_step (h : On w0 w (loopA r x n t S s cw fr vs o st fv L)) (st' : Int) : On w0 (w.setCell ⟨o, 2, none⟩ (.int .i64 st')) (loopA r x n t S s cw fr vs o st' fv L) := by
  obtain ⟨F, a, hg⟩ := ctx_o.use h
  exact hg _ _ (goes_cell a 2 _)
theorem loop_zero (h : On w0 w (loopA r x n t S s cw fr vs o st fv L)) : On w0 (w.setCell ⟨s, 3, none⟩ (.int .i64 0)) (loopA r x n t S s cw 0 vs o st fv L) := by
  obtain ⟨F, a, hg⟩ := (srch_f ctx_s).use h
  exact hg _ _ (goes_fr a)
theorem loop_decide (h : On w0 w (loopA r x n t S s cw fr vs o st fv L)) (hn : n ≤ 12) (i : Int) (hi : I64 i) {S' : WS} (hr : decS S i = (S', 0)) :
    Calls Try.prog 28 #[.pointer (some ⟨x, 0, none⟩), .int .i64 i] w fun e w' => e = .returned (.int .i64 0) ∧ On w0 w' (loopA r x n (t + 1) S' s cw fr vs o st fv L) := on_decide' (srch_w ctx_s) h hn i hi hr
theorem loop_back (h : On w0 w (loopA r x n t S s cw fr vs o st fv L)) (hn : n ≤ 12) (ht : t ≤ 240000) (i : Int) (hi : I64 i) {S' : WS} (hr : backS S i = (S', 0)) :
    Calls Try.prog 31 #[.pointer (some ⟨x, 0, none⟩), .int .i64 i] w fun e w' => e = .returned (.int .i64 0) ∧ On w0 w' (loopA r x n (t + 1) S' s cw fr vs o st fv L) := on_back' (srch_w ctx_s) h hn ht i hi hr
theorem loop_trail (h : On w0 w (loopA r x n t S s cw fr vs o st fv L)) (hn : n ≤ 12) :
    Calls Try.prog 30 #[.pointer (some ⟨x, 0, none⟩)] w fun e w' => ∃ g, e = .returned (.pointer (some ⟨g, 0, none⟩)) ∧ On w0 w' ((loopA r x n t S s cw fr vs o st fv L).and (trl g n S.es)) := on_wtrail (srch_w ctx_s) h hn
theorem loop_oks (h : On w0 w (loopA r x n t S s cw fr vs o st fv L)) : OkS n t S := On.ok (srch_w ctx_s) h
/-- A lesson beside it: behind the others. -/
theorem loop_more {l : Les} (h : On w0 w ((loopA r x n t S s cw fr vs o st fv L).and (lesA l))) : On w0 w ((((Emp.and (blkA r 40 (ansC false nilV 0 nilV nilV))).and (srch x n t S s cw fr vs)).and (fieldA o 40 (ansC false nilV st fv nilV) fv (L.map (·.v)))).and (lessA (L ++ [l]))) := by
  rw [lessA_snoc]
  exact h.assoc
end

section
variable {r x n t : Nat} {S : WS} {s : Nat} {cw : Value} {fr : Nat} {vs : List Value} {o : Nat} {st : Int} {fv : Value} {L : List Les} {w0 w : World}
/-- The bonds are put behind the others. -/
theorem loop_field {l : Les} {wa w1 : World} {v' : Value} (h : On w0 w ((loopA r x n t S s cw fr vs o st fv L).and (lesA l))) (ha : Touch (fun _ => False) w wa) (hg : wa.grownBy w1 fv.ownBlock) (ho : Own w1 26 1 v' (L.length + 1) (L.map (·.v) ++ [l.v])) (hat : v'.ownBlock = fv.ownBlock ∨ v'.ownBlock = some wa.heap.size) (hu : l.v.oneCell' = true) :
    On w0 (w1.setCell ⟨o, 3, none⟩ v') (loopA r x n t S s cw fr vs o st v' (L ++ [l])) := by
  have h1 := loop_more h
  have hC : Ctx fun A => (((Emp.and (blkA r 40 (ansC false nilV 0 nilV nilV))).and (srch x n t S s cw fr vs)).and A).and (lessA (L ++ [l])) := (Ctx.id.left (Solid.lessA (L ++ [l]))).right ((Solid.emp.and (Solid.blkA ..)).and (Solid.srch ..))
  obtain ⟨F, a, hgo⟩ := hC.use h1
  have h2 := hgo _ _ (goes_field 3 a ha hg (by simpa using ho) hat hu)
  have e : L.map (·.v) ++ [l.v] = (L ++ [l]).map (·.v) := by simp
  rw [e] at h2
  exact h2
theorem loop_field_blk {l : Les} {wa w1 : World} (h : On w0 w ((loopA r x n t S s cw fr vs o st fv L).and (lesA l))) (ha : Touch (fun _ => False) w wa) (hg : wa.grownBy w1 fv.ownBlock) : Blk w1 o 40 (ansC false nilV st fv nilV) := by
  obtain ⟨F, a, _⟩ := ctx_o.use h.drop
  exact field_grown a ha hg
theorem loop_add (h : On w0 w (loopA r x n t S s cw fr vs o st fv L)) (hn : n ≤ 12) (ht : t ≤ 240000) (hvs : vs.length ≤ 1000000) {l : Les} (hl : l ∈ L) (hc : l.c.length ≤ 2000) (hI : ∀ x ∈ l.c, I64 x) {S' : WS} {k : Int} (hr : addS S l.c = (S', k, 0)) :
    Calls Try.prog 26 #[.pointer (some ⟨s, 0, none⟩), l.u] w fun e w' => ∃ cw', e = .returned (.int .i64 0) ∧ On w0 w' (loopA r x n (t + 1) S' s cw' fr (vs ++ [l.u]) o st fv L) := by
  obtain ⟨ao, cap, e, hi⟩ := (loop_les h hl).1.ints
  have := on_sadd ctx_s h hn ht hvs ao l.c cap hi hc hI
  rw [hr, ← e] at this
  exact this
/-- A lesson of new blocks. -/
theorem loop_les_new {l : Les} {w1 : World} (h : On w0 w (loopA r x n t S s cw fr vs o st fv L)) (hb : Below w.heap.size w w1) (h1 : Own w1 3 1 l.u l.c.length (inC l.c)) (h2 : Own w1 3 1 l.v l.b.length (inC l.b)) (h3 : ∀ k, l.u.ownBlock = some k → w.heap.size ≤ k) (h4 : ∀ k, l.v.ownBlock = some k → w.heap.size ≤ k) : On w0 w1 ((loopA r x n t S s cw fr vs o st fv L).and (lesA l)) :=
  h.new (Solid.loopA ..) hb (B := lesA l) (F' := fun k => w.heap.size ≤ k ∧ k < w1.heap.size) ⟨h1, h2, fun k hk => ⟨h3 k hk, h1.lt k hk⟩, fun k hk => ⟨h4 k hk, h2.lt k hk⟩, fun _ hk => hk.2⟩ fun _ hk => hk.1
end

theorem On.trails {w0 w : World} {A : Ast} {g n : Nat} {es : List En} (h : On w0 w (A.and (trl g n es))) : Trails w0 w (fun _ => False) [(g, trE n es)] := by
  obtain ⟨F, ⟨Fa, Fb, _, b, d, e⟩, f, bl⟩ := h
  have b' : TrA w Fb g (trE n es) := b
  refine ⟨bl, fun _ h => h.elim, fun i k => i = 0 ∧ Fb k, fun i g' T hi => ?_, fun i j k h1 h2 => h1.1.trans h2.1.symm, fun i k hk => f k ((e k).2 (.inr hk.2)), fun i k hk => b'.lt k hk.2, fun i k _ h => h⟩
  match i, hi with
  | 0, hi =>
    simp at hi
    obtain ⟨rfl, rfl⟩ := hi
    obtain ⟨p, q, c, k1, k2, k3, k4, k5, k6, k7⟩ := b'
    exact ⟨p, q, c, k1, ⟨rfl, k2⟩, fun k hk => ⟨rfl, k3 k hk⟩, fun k hk => ⟨rfl, k4 k hk⟩, fun k hk => ⟨rfl, k5 k hk⟩, k6, fun k hk => k7 k hk.2⟩
  | i + 1, hi => simp at hi

/-- All clauses, those that were handed in and those that were learnt. -/
theorem cls_all {w0 w : World} {ao aoV : Option Addr} {cl : List (List Int)} {av : Nat → Option Addr} {cp : Nat → Nat} {capV : Nat} {L : List Les} (hr : IsRows w0 ao cl av cp) (hb : Below w0.heap.size w0 w)
    (hO : Own w 26 1 (.slice aoV (rowVals cl av cp ++ L.map (·.u)).length capV) (rowVals cl av cp ++ L.map (·.u)).length (rowVals cl av cp ++ L.map (·.u))) (hL : ∀ l ∈ L, Own w 3 1 l.u l.c.length (inC l.c)) :
    IsCls w aoV (cl ++ L.map (·.c)) := by
  intro h0
  have hlen : (rowVals cl av cp ++ L.map (·.u)).length = (cl ++ L.map (·.c)).length := by simp [rowVals]
  obtain ⟨ao', cap', e, _, _, hf⟩ := hO.form
  injection e with e1 e2 e3
  subst e1
  obtain ⟨b, off, rfl, hc, _, hbl⟩ := hf (by omega)
  refine ⟨b, off, rfl, hbl, fun j hj => ?_⟩
  have hcj := hc j (by omega)
  have hrow := hr.below hb
  by_cases hjl : j < cl.length
  · rw [List.getElem?_append_left (by simpa [rowVals] using hjl)] at hcj
    have e1 : (rowVals cl av cp)[j]? = some (.slice (av j) cl[j].length (cp j)) := by simp [rowVals, hjl, List.getD_eq_getElem?_getD]
    have e2 : (cl ++ L.map (·.c))[j] = cl[j] := List.getElem_append_left hjl
    rw [e2]
    exact ⟨_, _, hcj.trans e1, hrow.ints j hjl⟩
  · have hj2 : j - cl.length < L.length := by simp at hj; omega
    have e0 : (rowVals cl av cp).length = cl.length := by simp [rowVals]
    rw [List.getElem?_append_right (by omega), e0] at hcj
    have e1 : (L.map (·.u))[j - cl.length]? = some L[j - cl.length].u := by simp [hj2]
    have e2 : (cl ++ L.map (·.c))[j] = L[j - cl.length].c := by
      rw [List.getElem_append_right (by omega)]
      simp
    rw [e2]
    obtain ⟨aoL, capL, eL, hI⟩ := (hL _ (List.getElem_mem hj2)).ints
    rw [e1, eL] at hcj
    exact ⟨aoL, capL, hcj, hI⟩

set_option maxHeartbeats 1000000 in
theorem loop_learn {r x n t : Nat} {S : WS} {s fr o : Nat} {st : Int} {fv : Value} {L : List Les} {w0 w : World} {ao aoV : Option Addr} {NN capV g : Nat} {cl : List (List Int)} {av : Nat → Option Addr} {cp : Nat → Nat}
    (h : On w0 w ((loopA r x n t S s (.slice aoV NN capV) fr (rowVals cl av cp ++ L.map (·.u)) o st fv L).and (trl g n S.es))) (hn : n ≤ 12) (ht : t ≤ 240000) (hr : IsRows w0 ao cl av cp) (hcl : S.cl = cl ++ L.map (·.c)) (c : Int) {T : Taught} (hT : learnE n S.es S.cl c = T) (h0 : T.2.2.2 = 0) :
    Calls Try.prog 29 #[.pointer (some ⟨g, 0, none⟩), .slice aoV NN capV, .int .i64 c] w fun e w' => ∃ ao1 cap1 ao2 cap2, e = .returned (.tuple #[.slice ao1 T.1.length cap1, .int .i64 T.2.1, .slice ao2 T.2.2.1.length cap2, .int .i64 0]) ∧
      On w0 w' ((loopA r x n t S s (.slice aoV NN capV) fr (rowVals cl av cp ++ L.map (·.u)) o st fv L).and (lesA ⟨.slice ao1 T.1.length cap1, T.1, .slice ao2 T.2.2.1.length cap2, T.2.2.1⟩)) := by
  obtain ⟨ao', cap', e, _, _, hO⟩ := loop_clauses h.drop
  injection e with e1 e2 e3
  subst e1 e2 e3
  have hls : ∀ l ∈ L, Own w 3 1 l.u l.c.length (inC l.c) := fun l hl => (loop_les h.drop hl).1
  have hc := cls_all hr h.bel hO hls
  have ok := loop_oks h.drop
  have hlen : (rowVals cl av cp ++ L.map (·.u)).length = S.cl.length := by rw [hcl]; simp [rowVals]
  rw [← hcl] at hc
  have hl := learn_any S.cl aoV capV c h.trails 0 rfl (by have := ok.inv.good; rwa [ok.n] at this) (by omega) hc (fun d hd => by have := ok.lens d hd; omega) (by have := ok.cl; omega)
  rw [hT] at hl
  rw [hlen]
  refine hl.mono ?_
  rintro e w' ⟨hb, vc, v2, rfl, o1, o2, n1, n2⟩
  obtain ⟨ao1, cap1, f1, _⟩ := o1.form
  obtain ⟨ao2, cap2, f2, _⟩ := o2.form
  subst f1 f2
  rw [h0]
  refine ⟨ao1, cap1, ao2, cap2, rfl, ?_⟩
  rw [← hlen]
  exact loop_les_new h.drop hb o1 o2 n1 n2

theorem run_steps : ∀ {k : Nat} {q : Q} {a : Ans}, runQ k q = some a → q.steps ≤ a.steps
  | 0, _, _, h => by cases h
  | k + 1, q, a, h => by
    unfold runQ at h
    cases hq : nextQ q with
    | done a' =>
      rw [hq] at h
      injection h with h
      subst h
      unfold nextQ at hq
      split at hq
      · split at hq
        · injection hq with hq; subst hq; show q.steps ≤ q.steps + 1; omega
        · cases hq
      · split at hq
        · cases hq
        · injection hq with hq; subst hq; exact Nat.le_refl _
    | go q' =>
      rw [hq] at h
      have h1 := run_steps h
      unfold nextQ at hq
      split at hq
      · split at hq
        · cases hq
        · injection hq with hq; subst hq; simp only at h1; omega
      · split at hq
        · injection hq with hq; subst hq; simp only at h1; omega
        · cases hq

/-! ### What comes behind the loop -/
def boolsA (v : Value) (l : List Bool) : Ast := fun w F => Own w 4 1 v l.length (boC l) ∧ ∀ k, F k ↔ v.ownBlock = some k
theorem Solid.boolsA (v : Value) (l : List Bool) : Solid (boolsA v l) := ⟨fun ⟨a, e⟩ ht hG => ⟨a.touch ht fun k hk => hG k ((e k).2 hk), e⟩, fun ⟨a, e⟩ k hk => a.lt k ((e k).1 hk)⟩
theorem bools_made (w : World) (n : Nat) (hn : n ≤ 1000000) : boolsA (.slice (some ⟨w.heap.size, 0, none⟩) n n) (List.replicate n false) (w.alloc (.cells (madeCells #[.bool false] n) 4)) fun k => k = w.heap.size := by
  refine ⟨?_, fun k => ?_⟩
  · have h := Own.made w 4 1 (madeCells #[.bool false] n) n (by rw [size_madeCells]; simp) (by simp only [maxLen]; omega)
    have e : (madeCells #[Value.bool false] n).toList = boC (List.replicate n false) := by
      have := toList_madeCells_one (.bool false) n
      rw [this]
      simp [boC]
    rw [e] at h
    simpa using h
  · simp only [Value.ownBlock, Option.some.injEq]
    exact eq_comm
section
variable {r x n t : Nat} {S : WS} {s : Nat} {cw : Value} {fr : Nat} {vs : List Value} {o : Nat} {st : Int} {fv : Value} {L : List Les} {w0 w : World}
def finA (r x n t : Nat) (S : WS) (s : Nat) (cw : Value) (fr : Nat) (vs : List Value) (o : Nat) (cs : Array Value) (fv : Value) (L : List Les) (D : Ast) : Ast :=
  ((((Emp.and (blkA r 40 (ansC false nilV 0 nilV nilV))).and (srch x n t S s cw fr vs)).and (fieldA o 40 cs fv (L.map (·.v)))).and (lessA L)).and D
theorem Solid.finA {D : Ast} (hD : Solid D) (cs : Array Value) : Solid (finA r x n t S s cw fr vs o cs fv L D) := (((((Solid.emp.and (Solid.blkA ..)).and (Solid.srch ..)).and (Solid.fieldA ..)).and (Solid.lessA L))).and hD
theorem fctx_o {D : Ast} (hD : Solid D) : Ctx fun A => ((((Emp.and (blkA r 40 (ansC false nilV 0 nilV nilV))).and (srch x n t S s cw fr vs)).and A).and (lessA L)).and D := ((Ctx.id.left hD).left (Solid.lessA L)).right ((Solid.emp.and (Solid.blkA ..)).and (Solid.srch ..))
theorem fctx_s {D : Ast} (hD : Solid D) (cs : Array Value) : Ctx fun A => ((((Emp.and (blkA r 40 (ansC false nilV 0 nilV nilV))).and A).and (fieldA o 40 cs fv (L.map (·.v)))).and (lessA L)).and D := (((Ctx.id.left hD).left (Solid.lessA L)).left (Solid.fieldA ..)).right (Solid.emp.and (Solid.blkA ..))
theorem fctx_r {D : Ast} (hD : Solid D) (cs : Array Value) : Ctx fun A => ((((Emp.and A).and (srch x n t S s cw fr vs)).and (fieldA o 40 cs fv (L.map (·.v)))).and (lessA L)).and D := ((((Ctx.id.left hD).left (Solid.lessA L)).left (Solid.fieldA ..)).left (Solid.srch ..)).right Solid.emp

theorem fin_bools {cs : Array Value} {g : Nat} {l : List Bool} (h : On w0 w (finA r x n t S s cw fr vs o cs fv L (boolsA (.slice (some ⟨g, 0, none⟩) n n) l))) (hl : l.length = n) : (∀ j (h : j < l.length), w.cell? ⟨g, j, none⟩ = some (.bool l[j])) ∧ (∀ j, w.frozen? ⟨g, j, none⟩ = false) := by
  obtain ⟨F, ⟨Fa, Fb, _, ⟨b, _⟩, _⟩, _⟩ := h
  obtain ⟨ao, cap, e, _, _, hf⟩ := b.form
  injection e with e1 e2 e3
  by_cases h0 : 0 < l.length
  · obtain ⟨g', off, e4, hc, hz, _⟩ := hf h0
    rw [← e1] at e4
    injection e4 with e4
    injection e4 with e5 e6
    subst e5 e6
    exact ⟨fun j hj => by have := hc j (by simpa [boC] using hj); simpa [boC, hj] using this, hz⟩
  · refine ⟨fun j hj => by omega, fun j => ?_⟩
    obtain ⟨cur, hb⟩ := b.blk (k := g) rfl
    exact hb.frozen j
/-- A value more. -/
theorem fin_set {cs : Array Value} {g : Nat} {l : List Bool} (h : On w0 w (finA r x n t S s cw fr vs o cs fv L (boolsA (.slice (some ⟨g, 0, none⟩) n n) l))) (hl : l.length = n) (j : Nat) (b : Bool) : On w0 (w.setCell ⟨g, j, none⟩ (.bool b)) (finA r x n t S s cw fr vs o cs fv L (boolsA (.slice (some ⟨g, 0, none⟩) n n) (l.set j b))) := by
  have hC : Ctx fun A => finA r x n t S s cw fr vs o cs fv L A := Ctx.id.right (((((Solid.emp.and (Solid.blkA ..)).and (Solid.srch ..)).and (Solid.fieldA ..)).and (Solid.lessA L)))
  obtain ⟨F, ⟨a, e⟩, hg⟩ := hC.use h
  refine hg _ _ ⟨F, ⟨?_, e⟩, (Touch.refl _ w).setCell (fun _ => (e g).2 rfl) _, fun k hk => .inl hk⟩
  have := Own.stored (hl ▸ a) j (.bool b)
  rw [Nat.zero_add] at this
  simpa [boC, hl, List.map_set] using this

theorem fin_one (h : On w0 w (loopA r x n t S s cw fr vs o st fv L)) (hn : n ≤ 1000000) : On w0 (((w.setCell ⟨o, 0, none⟩ (.bool true)).alloc (.cells (madeCells #[.bool false] n) 4)).setCell ⟨o, 1, none⟩ (.slice (some ⟨w.heap.size, 0, none⟩) n n))
    (finA r x n t S s cw fr vs o (ansC true (.slice (some ⟨w.heap.size, 0, none⟩) n n) st fv nilV) fv L (boolsA (.slice (some ⟨w.heap.size, 0, none⟩) n n) (List.replicate n false))) := by
  obtain ⟨F, a, hg⟩ := ctx_o.use h
  have h1 := hg _ _ (goes_cell a 0 (.bool true))
  have e : (w.setCell ⟨o, 0, none⟩ (.bool true)).heap.size = w.heap.size := by simp [World.setCell]
  have hm := bools_made (w.setCell ⟨o, 0, none⟩ (.bool true)) n hn
  rw [e] at hm
  have h2 := h1.new ((((Solid.emp.and (Solid.blkA ..)).and (Solid.srch ..)).and (Solid.fieldA ..)).and (Solid.lessA L)) ((Below.refl _ _).alloc (Nat.le_refl _) _) hm fun k hk => Nat.le_of_eq (e.trans hk.symm)
  obtain ⟨F, a, hg⟩ := (fctx_o (Solid.boolsA ..)).use h2
  exact hg _ _ (goes_cell a 1 _)
theorem fin_two (h : On w0 w (loopA r x n t S s cw fr vs o st fv L)) (hn : n ≤ 1000000) : On w0 (((w.alloc (.cells (madeCells #[.bool false] n) 4)).setCell ⟨o, 0, none⟩ (.bool true)).setCell ⟨o, 1, none⟩ (.slice (some ⟨w.heap.size, 0, none⟩) n n))
    (finA r x n t S s cw fr vs o (ansC true (.slice (some ⟨w.heap.size, 0, none⟩) n n) st fv nilV) fv L (boolsA (.slice (some ⟨w.heap.size, 0, none⟩) n n) (List.replicate n false))) := by
  have h2 := h.new (Solid.loopA ..) ((Below.refl _ _).alloc (Nat.le_refl _) _) (bools_made w n hn) fun k hk => Nat.le_of_eq hk.symm
  obtain ⟨F, a, hg⟩ := (fctx_o (Solid.boolsA ..)).use h2
  have h3 := hg _ _ (goes_cell a 0 (.bool true))
  obtain ⟨F, a, hg⟩ := (fctx_o (Solid.boolsA ..)).use h3
  exact hg _ _ (goes_cell a 1 _)

theorem state_next {n : Nat} {es : List En} {j : Nat} (h : j < n) : ((stateE n es).take j ++ List.replicate (n - j) false).set j (decide (valE n es ((j : Int) + 1) = 1)) = (stateE n es).take (j + 1) ++ List.replicate (n - (j + 1)) false := by
  have hl : j < (stateE n es).length := by simpa [stateE] using h
  have e1 : (stateE n es)[j] = decide (valE n es ((j : Int) + 1) = 1) := by simp [stateE]
  rw [List.take_succ_eq_append_getElem hl, e1, show n - j = (n - (j + 1)) + 1 by omega, List.replicate_succ]
  rw [List.set_append, if_neg (by simp [stateE]; omega)]
  have e2 : j - ((stateE n es).take j).length = 0 := by simp [stateE]; omega
  rw [e2, List.append_assoc]
  rfl

theorem fin_bonds {R Z D : Ast} {cs : Array Value} (h : On w0 w ((((R.and Z).and (fieldA o 40 cs fv (L.map (·.v)))).and (lessA L)).and D)) : ∃ vals, Own w 26 1 fv (L.map Les.b).length vals ∧ (∀ k, fv.ownBlock = some k → w0.heap.size ≤ k) ∧ ∀ j (h : j < (L.map Les.b).length), ∃ u, vals[j]? = some u ∧ Own w 3 1 u (L.map Les.b)[j].length (inC (L.map Les.b)[j]) ∧ ∀ k, u.ownBlock = some k → w0.heap.size ≤ k := by
  obtain ⟨F, ⟨F1, F2, ⟨F3, F4, ⟨F5, F6, _, ⟨F7, F8, _, ⟨o1, o2, o3⟩, _, e4⟩, _, e3⟩, l1, _, e2⟩, _, _, e1⟩, f, bl⟩ := h
  refine ⟨L.map (·.v), by simpa using o1, fun k hk => f k ((e1 k).2 (.inl ((e2 k).2 (.inl ((e3 k).2 (.inr ((e4 k).2 (.inr ((o3 k).2 hk)))))))) ), fun j hj => ?_⟩
  have hj' : j < L.length := by simpa using hj
  obtain ⟨F', m1, m2⟩ := less_mem_sub L l1 L[j] (List.getElem_mem hj')
  obtain ⟨a, b, c, d, _⟩ := m1
  refine ⟨L[j].v, by simp [hj'], by simpa using b, fun k hk => f k ((e1 k).2 (.inl ((e2 k).2 (.inr (m2 k (d k hk))))))⟩
theorem fin_yes {R Z : Ast} {cs : Array Value} {sv : Value} {bs : List Bool} {m : Nat} (h : On w0 w ((((R.and Z).and (fieldA o 40 cs fv (L.map (·.v)))).and (lessA L)).and (boolsA sv bs))) : AnsAt w0 w ⟨true, bs, m, L.map Les.b, []⟩ sv fv nilV := by
  obtain ⟨F, ⟨Fa, Fb, _, ⟨b, e2⟩, _, e⟩, f, _⟩ := id h
  exact ⟨b, fun k hk => f k ((e k).2 (.inr ((e2 k).2 hk))), fin_bonds h, Own.nil _ _ _, fun k hk => by simp [nilV, Value.ownBlock] at hk⟩
theorem fin_no {R Z : Ast} {cs : Array Value} {l : Les} {m : Nat} (h : On w0 w ((((R.and Z).and (fieldA o 40 cs fv (L.map (·.v)))).and (lessA L)).and (lesA l))) : AnsAt w0 w ⟨false, [], m, L.map Les.b, l.b⟩ nilV fv l.v := by
  obtain ⟨F, ⟨Fa, Fb, _, ⟨_, b, _, e2, _⟩, _, e⟩, f, _⟩ := id h
  exact ⟨Own.nil _ _ _, fun k hk => by simp [nilV, Value.ownBlock] at hk, fin_bonds h, b, fun k hk => f k ((e k).2 (.inr (e2 k hk)))⟩
end

end Go.Proofs.Ythinopiobihmaaa
