/- A watcher in memory: how far it has looked, and what is fresh, are written; Propagate's plain steps. -/
import Derived.Test.YtnachllhjojlcaaV7
namespace Go.Proofs.Ytnachllhjojlcaa
open Go.ChangeShapes Go.WideShapes Go.ChangeAt Go.RowKit Go.Maps
set_option maxRecDepth 100000

section
variable {w : World} {M : WM} {S : WS}
theorem WAt.setDone (h : WAt w M S) (d : Nat) : WAt (w.setCell ⟨M.x, 4, none⟩ (.int .i64 (d : Int))) M (S.wDone d) ∧ Touch (M.all S) w (w.setCell ⟨M.x, 4, none⟩ (.int .i64 (d : Int))) ∧ ∀ k, M.all (S.wDone d) k → M.all S k ∨ w.heap.size ≤ k := by
  have hb : Blk w M.x 65 _ := h.part .self
  refine WAt.upd (M' := M) (S' := S.wDone d) (fun t => t = .self) h ((Touch.refl _ w).setCell (fun _ => ⟨.self, rfl, rfl⟩) _) (fun t ht hp => by cases t <;> first | exact hp | exact absurd rfl ht) (fun t ht => by
    subst ht
    have h2 := hb.set_ 4 (.int .i64 (d : Int))
    exact h2) (fun t ht k hk => by cases t <;> first | exact hk | exact absurd rfl ht) (fun t ht k hk => by subst ht; exact .inl ⟨.self, rfl, hk⟩) (fun t ht k hk => by
    subst ht
    have := h.lt .self k hk
    show k < (w.setCell _ _).heap.size
    simpa [World.setCell] using this) (fun t t' ht ht' _ _ _ => by subst ht ht'; rfl)

theorem WAt.setFresh (h : WAt w M S) {w1 : World} {v' : Value} {fr : List Nat} (ht : Touch (fun k => M.vF.ownBlock = some k) w w1) (ho : Own w1 3 1 v' fr.length (natC fr)) (hat : ∀ k, v'.ownBlock = some k → M.vF.ownBlock = some k ∨ w.heap.size ≤ k) :
    WAt (w1.setCell ⟨M.x, 5, none⟩ v') { M with vF := v' } (S.wFresh fr) ∧ Touch (M.all S) w (w1.setCell ⟨M.x, 5, none⟩ v') ∧ ∀ k, WM.all { M with vF := v' } (S.wFresh fr) k → M.all S k ∨ w.heap.size ≤ k := by
  have hb : Blk w M.x 65 _ := h.part .self
  have hxf : ¬ M.vF.ownBlock = some M.x := fun e => by
    have := h.dis .fresh .self M.x e rfl
    cases this
  have hb1 := hb.touch ht hxf
  have hxv : v'.ownBlock ≠ some M.x := fun e => by
    rcases hat _ e with h1 | h1
    · exact hxf h1
    · have := hb.lt; omega
  have ht2 : Touch (fun k => ∃ t, (t = Tag.self ∨ t = Tag.fresh) ∧ M.own S t k) w (w1.setCell ⟨M.x, 5, none⟩ v') :=
    (ht.mono (G := fun k => ∃ t, (t = Tag.self ∨ t = Tag.fresh) ∧ M.own S t k) fun k _ hk => ⟨.fresh, .inr rfl, hk⟩).setCell (p := ⟨M.x, 5, none⟩) (fun _ => ⟨.self, .inl rfl, rfl⟩) _
  have ho2 : Own (w1.setCell ⟨M.x, 5, none⟩ v') 3 1 v' fr.length (natC fr) := ho.far hxv _
  refine WAt.upd (M' := { M with vF := v' }) (S' := S.wFresh fr) (fun t => t = .self ∨ t = .fresh) h ht2 (fun t ht hp => ?_) (fun t ht => ?_) (fun t ht k hk => ?_) (fun t ht k hk => ?_) (fun t ht k hk => ?_) (fun t t' ht ht' k h1 h2 => ?_)
  · cases t <;> first | exact hp | exact absurd (.inl rfl) ht | exact absurd (.inr rfl) ht
  · rcases ht with rfl | rfl
    · exact hb1.set_ 5 v'
    · exact ho2
  · cases t <;> first | exact hk | exact absurd (.inl rfl) ht | exact absurd (.inr rfl) ht
  · rcases ht with rfl | rfl
    · exact .inl ⟨.self, .inl rfl, hk⟩
    · rcases hat k hk with h1 | h1
      · exact .inl ⟨.fresh, .inr rfl, h1⟩
      · exact .inr h1
  · rcases ht with rfl | rfl
    · have hk' : k = M.x := hk
      subst hk'
      exact (hb1.set_ 5 v').lt
    · exact ho2.lt k hk
  · rcases ht with rfl | rfl <;> rcases ht' with rfl | rfl
    · rfl
    · cases h1; exact absurd h2 hxv
    · cases h2; exact absurd h1 hxv
    · rfl
end

theorem fresh_step {S : WS} (h : WInv S) {c : Nat} {rest : List Nat} (hf : S.fresh = c :: rest) (hk : (lookS S c).2 = false) : WInv ((lookS S c).1.wFresh rest) ∧ (lookS S c).1.n = S.n ∧ (lookS S c).1.cl = S.cl := by
  rcases look_cases h c with ⟨h1, h2⟩ | ⟨h1, h2⟩ | ⟨x, hx, hv, ho, h2⟩ | ⟨h1, h2⟩
  · rw [h2]
    exact ⟨h.drop hf (.inl h1), rfl, rfl⟩
  · rw [h2] at hk
    cases hk
  · obtain ⟨k1, _, k3⟩ := h.unit hx hv ho
    rw [h2]
    exact ⟨k1.drop (c := c) (rest := rest) hf (.inl ⟨x, hx, k3⟩), rfl, rfl⟩
  · rw [h2]
    exact ⟨h.drop hf (.inr h1), rfl, rfl⟩
theorem look_fresh (S : WS) (c : Nat) : (lookS S c).1.fresh = S.fresh ∧ (lookS S c).1.ls = S.ls := by
  unfold lookS
  split
  · exact ⟨rfl, rfl⟩
  · split <;> exact ⟨rfl, rfl⟩

/-- One literal more was looked at. -/
theorem done_step {S : WS} (h : WInv S) (hf : S.fresh = []) (hd : S.done < S.es.length) (h0 : ¬ 0 ≤ (movesS (headS S) (S.by_ (headS S)) S []).2) :
    WInv ((movesS (headS S) (S.by_ (headS S)) S []).1.wDone ((movesS (headS S) (S.by_ (headS S)) S []).1.done + 1)) ∧ (movesS (headS S) (S.by_ (headS S)) S []).1.fresh = [] ∧ (movesS (headS S) (S.by_ (headS S)) S []).1.done = S.done ∧
      (movesS (headS S) (S.by_ (headS S)) S []).1.n = S.n ∧ (movesS (headS S) (S.by_ (headS S)) S []).1.cl = S.cl := by
  obtain ⟨k1, k2⟩ := moves_spec (headS S) (S.by_ (headS S)) S [] (mid_start h hf (head_val h hd))
  obtain ⟨m1, m2, m3⟩ := k2 (by omega)
  obtain ⟨T, c⟩ : ∃ T, T = (movesS (headS S) (S.by_ (headS S)) S []).1 := ⟨_, rfl⟩
  rw [← c] at m1 m2 m3 ⊢
  have hT := k1.inv
  have hn := k1.n
  have hcl := k1.cl
  have hex := k1.ext
  rw [← c] at hT hn hcl hex
  have hlt : T.done < T.es.length := by rw [m2]; have := ext_len hex; omega
  have hx0 : ((T.es.map (·.lit)).reverse).getD T.done 0 = -headS S := by
    obtain ⟨s, hs⟩ := ext_lits hex
    unfold headS
    rw [Int.neg_neg, hs, m2, List.getD_eq_getElem?_getD, List.getD_eq_getElem?_getD, List.getElem?_append_left (by simpa using hd)]
  have hW : WInv (T.wDone (T.done + 1)) := { hT with
    doneLe := hlt
    watch := fun i hi a b r hq => by
      have hq' : T.ls.getD i [] = a :: b :: r := hq
      obtain ⟨w1, w2⟩ := hT.watch i hi a b r hq'
      have hil : i < S.cl.length := by
        rcases Nat.lt_or_ge i S.cl.length with h1 | h1
        · exact h1
        · have h2 := (hT.mem i a).1 (by rw [hq']; exact List.mem_cons_self ..)
          have := (getD_lt h2).1
          rw [hcl] at this
          exact this
      obtain ⟨p1, p2⟩ := m3 i hil a b r hq'
      rw [← hn] at p1 p2
      constructor
      · intro hs
        rcases (seen_succ hlt).1 hs with hs | hs
        · exact w1 hs
        · rw [hx0, Int.neg_neg] at hs
          exact p1 hs
      · intro hs
        rcases (seen_succ hlt).1 hs with hs | hs
        · exact w2 hs
        · rw [hx0, Int.neg_neg] at hs
          exact p2 hs
    watchF := fun i a b r hq hi => by
      have hi' : i ∈ T.fresh := hi
      rw [m1] at hi'
      cases hi' }
  exact ⟨hW, m1, m2, hn, hcl⟩

/-- The state while Propagate goes on. -/
structure PrSt (w wr : World) (M M1 : WM) (S S1 : WS) (d : Nat) : Prop where
  at_ : WAt wr M1 S1
  inv : WInv S1
  x : M1.x = M.x
  n : S1.n = S.n
  cl : S1.cl = S.cl
  nb : M1.nB ≤ M.nB + d
  touch : Touch (M.all S) w wr
  all : ∀ k, M1.all S1 k → M.all S k ∨ w.heap.size ≤ k
theorem PrSt.up {w wr : World} {M M1 : WM} {S S1 : WS} {d d' : Nat} (h : PrSt w wr M M1 S S1 d) (hd : d ≤ d') (h0 : d' ≠ 0) : WUp d' w wr M S S1 := ⟨M1, h.at_, h.x, by have := h.nb; omega, h.touch, h.all, fun e => absurd e h0⟩
theorem PrSt.below {w wr wr' : World} {M M1 : WM} {S S1 : WS} {d : Nat} (h : PrSt w wr M M1 S S1 d) (hb : Below wr.heap.size wr wr') : PrSt w wr' M M1 S S1 d :=
  ⟨h.at_.below hb, h.inv, h.x, h.n, h.cl, h.nb, h.touch.trans (Touch.of_below hb fun _ => False) fun _ _ hf => hf.elim, h.all⟩
theorem PrSt.step {w wr wr' : World} {M M1 M2 : WM} {S S1 S2 : WS} {d d' : Nat} (h : PrSt w wr M M1 S S1 d) (hI : WInv S2) (hn : S2.n = S1.n) (hc : S2.cl = S1.cl) (ha : WAt wr' M2 S2) (hx : M2.x = M1.x) (hb : M2.nB ≤ M1.nB + d') (ht : Touch (M1.all S1) wr wr')
    (hall : ∀ k, M2.all S2 k → M1.all S1 k ∨ wr.heap.size ≤ k) : PrSt w wr' M M2 S S2 (d + d') :=
  ⟨ha, hI, hx.trans h.x, hn.trans h.n, hc.trans h.cl, by have := h.nb; omega, touch_trans h.touch h.all ht, all_trans h.touch.size h.all hall⟩

end Go.Proofs.Ytnachllhjojlcaa
