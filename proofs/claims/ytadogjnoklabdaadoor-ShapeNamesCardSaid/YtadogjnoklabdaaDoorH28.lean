/- shape.Atoms. Conditions: as each theorem names them. -/
import Derived.Test.YtadogjnoklabdaaDoorH27
namespace Go.Proofs.YtadogjnoklabdaaDoor
open Go.ChangeShapes Go.WideShapes Go.ChangeAt Go.RowKit Go.Deep Go.Shelf
set_option maxRecDepth 100000
attribute [local go_sem] Oper.semAt_some

theorem wpIn_frame {F : Fence} {n : Nat} {P : Program} {c : Code} {Q : Exit → Act → World → Prop} {a : Act} {w : World} (h : ∀ a0, a0 = a → c.wpIn F n P Q a0 w) : c.wpIn F n P Q a w := h a rfl
abbrev partB (x : PartD) : Array Value := #[.int .u8 x.kind, .string x.dep.name, .int .u8 x.dep.op, .int .i64 x.dep.ep, .string x.dep.ver, .string x.dep.rel, .slice x.a x.n x.c]
theorem new_below (w : World) (o : Obj) : Below w.heap.size w (w.alloc o) := (Below.refl _ w).alloc (Nat.le_refl _) _
theorem keyA_snoc (pre : List PartD) (x : PartD) : keyA ((pre ++ [x]).map PartD.key) = keyA (pre.map PartD.key) ++ (if x.kind = 1 then [x.dep] else []) := by
  rw [List.map_append]
  unfold keyA
  rw [List.filterMap_append]
  refine congrArg (_ ++ ·) ?_
  show List.filterMap _ [x.key] = _
  by_cases h : x.kind = 1
  · simp [PartD.key, h]
  · simp [PartD.key, h]

set_option maxHeartbeats 4000000 in
theorem atoms_any (W0 : World) (r : RichD) (s : Value) (hs0 : IsArgs W0 r s) (w : World) (hB : Below W0.heap.size W0 w) (hc : r.count ≤ 600) : Calls Tryd.prog 15 #[r.val s] w fun e w' =>
    ∃ ao c, e = .returned (.slice ao r.atoms.length c) ∧ Own w' 25 5 (.slice ao r.atoms.length c) r.atoms.length (enD r.atoms) ∧ (∀ k, (Value.slice ao r.atoms.length c).ownBlock = some k → w.heap.size ≤ k) ∧ Below w.heap.size w w' := by
  have hs := hs0.kept hB
  obtain ⟨a, c, rfl⟩ := hs.form
  obtain ⟨w2, hw2⟩ : ∃ w2, w2 = (w.alloc (richObj r (.slice a r.n c))).alloc (.cells #[.slice none 0 0] 38) := ⟨_, rfl⟩
  obtain ⟨w4, hw4⟩ : ∃ w4, w4 = (w2.alloc (richObj r (.slice a r.n c))).alloc (.cells #[selfV (w2.heap.size + 1)] 57) := ⟨_, rfl⟩
  have HP := Lib.hid (parts_any r (.slice a r.n c) w2)
  rw [← hw4] at HP
  have hz2 : w2.heap.size = w.heap.size + 2 := by rw [hw2]; simp
  have hz4 : w4.heap.size = w.heap.size + 4 := by rw [hw4]; simp [hz2]
  have hb2 : Below w.heap.size w w2 := by rw [hw2]; exact ((Below.refl _ w).alloc (Nat.le_refl _) _).alloc (by simp) _
  have hb24 : Below w2.heap.size w2 w4 := by rw [hw4]; exact ((Below.refl _ w2).alloc (Nat.le_refl _) _).alloc (by simp) _
  have hk2 : Blk w2 (w.heap.size + 1) 38 #[.slice none 0 0] := by rw [hw2]; have := Blk.new (w.alloc (richObj r (.slice a r.n c))) 38 #[.slice none 0 0]; rwa [World.size_alloc] at this
  have hk4 : Blk w4 (w.heap.size + 1) 38 #[.slice none 0 0] := hk2.below hb24 (by omega)
  have hself : Blk w4 (w.heap.size + 3) 57 #[selfV (w.heap.size + 3)] := by
    rw [hw4, hz2]
    have := Blk.new (w2.alloc (richObj r (.slice a r.n c))) 57 #[selfV (w.heap.size + 2 + 1)]
    rw [World.size_alloc, hz2] at this
    exact this
  have hrb : RichB w4 (w.heap.size + 2) r (.slice a r.n c) := by
    have h := RichB.new w2 r (.slice a r.n c)
    rw [hz2] at h
    rw [hw4]
    exact h.below (below_new _ _)
  have hst := parts_stops w w4 (w.heap.size + 3) (w.heap.size + 2) (w.heap.size + 1) 4 (by omega) (by omega) r _ hs (hb2.trans (hb24.mono (by omega))) (by omega) (by omega) hself hrb
  have HST := Lib.hid hst
  have HA4 := Lib.hid (show ASt w (w.heap.size + 1) [] (.slice none 0 0) w4 from ⟨hb2.trans (hb24.mono (by omega)), hk4, Own.nil _ _ _, fun k h => by simp [Value.ownBlock] at h⟩)
  clear hst hself hrb hk4 hk2 hb2 hb24 hs hs0 hB hw4
  refine (callsIn_wide (n := 5)).1 ?_
  refine callsIn_of_wp_marks Tryd.func15 rfl trivial ?_ rfl
  simp only [Tryd.ntmps15, List.size_toArray, List.length_cons, List.length_nil, Nat.reduceAdd, Nat.reduceSub, Array.replicate_succ, Array.replicate_zero, List.push_toArray, List.append_toArray, List.nil_append, List.cons_append]
  unfold RichD.val richV
  subst hw2
  gi_wp2_with ((try refine ⟨trivial, ?_⟩); gi_at_call 29; refine (callsIn_wide.2 HP.out).mono ?_; rintro e w1 ⟨rfl, rfl⟩)
  refine wpIn_frame ?_
  intro a0 ha0
  refine wpIn_rangeFunc_ownH (F := Fence.wide) (n := 5) rfl (by omega) (gf := 35) (lb := #[.pointer (some ⟨w.heap.size + 3, 0, none⟩), .pointer (some ⟨w.heap.size + 2, 0, none⟩)]) (by rw [ha0]; rfl) trivial (enters_of Tryd.func35 (by kernel_rfl) rfl) HST.out Kp.t (Kp.b (by omega)) (Below.refl _ _) (fun _ => rfl)
    (fun pre W => ∃ v, ASt w (w.heap.size + 1) (keyA (pre.map PartD.key)) v W) (fun _ _ _ => False)
    (fun s A B row hs hg hr => by
      obtain ⟨v, hv⟩ := hs
      exact ⟨v, hv.walk hg hr (by omega)⟩)
    (fun _ _ _ _ _ hs _ _ => hs) ⟨_, HA4.out⟩
    (fun x a' W => ∃ Bx, w.heap.size + 1 < Bx ∧ Blk W Bx 28 (partB x) ∧ a' = { tmps := ((a0.tmps.setIfInBounds 7 (richV x.kind x.dep (.slice x.a x.n x.c))).setIfInBounds 8 (.bool x.alone)).setIfInBounds 4 (.pointer (some ⟨Bx, 0, none⟩)), defers := [] })
    (fun x a' s A B row hs hg' hr => by
      obtain ⟨Bx, h1, h2, h3⟩ := hs
      exact ⟨Bx, h1, blk_walk h2 hg' hr, h3⟩) ?assign ?body ?done ?stop
  case assign =>
    rintro l pre x W K ⟨v, hm⟩ hK
    subst ha0
    have HKK := Lib.hid hK
    have HMW := Lib.hid hm
    clear hK hm
    gi_wp2
    refine HKK.out _ _ ((KeepsOthers.alloc _ _).from _) (Kp.of_below HMW.out.bl.size (new_below W (.cells (partB x) 28))) ⟨v, HMW.out.new_ (new_below W (.cells (partB x) 28))⟩ ⟨W.heap.size, HMW.out.bv.lt, Blk.new W 28 (partB x), ?_⟩
    rfl
  case body =>
    rintro l pre x a' W hl ⟨rr, hrr⟩ ⟨v, hm⟩ ⟨Bx, hBx, hbx, rfl⟩ hlen
    subst ha0
    simp only [List.setIfInBounds_toArray, List.set_cons_succ, List.set_cons_zero]
    have HS := Lib.hid (keyA_snoc pre x)
    obtain ⟨ds, hds⟩ : ∃ ds, ds = keyA (pre.map PartD.key) := ⟨_, rfl⟩
    have hdl : ds.length < 600 := by
      rw [hds]
      refine Nat.lt_of_le_of_lt (keyA_len _) ?_
      rw [List.length_map]
      omega
    rw [← hds] at HS hm
    clear hds
    have p0 : W.cell? ⟨Bx, 0, none⟩ = some (.int .u8 x.kind) := hbx.cell 0
    have p1 : W.cell? ⟨Bx, 1, none⟩ = some (.string x.dep.name) := hbx.cell 1
    have p2 : W.cell? ⟨Bx, 2, none⟩ = some (.int .u8 x.dep.op) := hbx.cell 2
    have p3 : W.cell? ⟨Bx, 3, none⟩ = some (.int .i64 x.dep.ep) := hbx.cell 3
    have p4 : W.cell? ⟨Bx, 4, none⟩ = some (.string x.dep.ver) := hbx.cell 4
    have p5 : W.cell? ⟨Bx, 5, none⟩ = some (.string x.dep.rel) := hbx.cell 5
    have HMW := Lib.hid hm
    have HBX := Lib.hid hbx
    by_cases hk1 : x.kind = 1
    · have HS2 := Lib.hid (show keyA ((pre ++ [x]).map PartD.key) = ds ++ [x.dep] by rw [HS.out, if_pos hk1])
      obtain ⟨ao, cp, rfl, _, _, _⟩ := hm.ow.form
      have c0 : W.cell? ⟨w.heap.size + 1, 0, none⟩ = some (.slice ao ds.length cp) := hm.bv.cell 0
      have HO1 := Lib.hid ((hm.ow).alloc (.cells #[.string x.dep.name, .int .u8 x.dep.op, .int .i64 x.dep.ep, .string x.dep.ver, .string x.dep.rel] 25))
      have HM1 := Lib.hid (HMW.out.new_ (new_below W (.cells #[.string x.dep.name, .int .u8 x.dep.op, .int .i64 x.dep.ep, .string x.dep.ver, .string x.dep.rel] 25)))
      obtain ⟨iD, hiD, hz0, hz1, hz2'⟩ := iDep
      clear hm hbx HST HP HA4 hlen
      gi_wp2_with (first
        | (gi_at_builtin; (refine wpListIn_append_S rfl (.tmp 12) (.tmp 15) _ _ rfl 25 iD _ 5 64 Tryd.underlying38 hiD hz0 hz1 hz2' rfl (by omega) (.slice ao ds.length cp) ds.length (enD ds) rfl HO1.out (enD_one ds) (.slice (some ⟨W.heap.size, 0, none⟩) 1 1) 1 x.dep.cs rfl (src_dep W x.dep) (by simp only [maxLen]; omega) (by omega) ?_; rintro ao' cap' w7 hn1 hn2 hO7 hg7 hat7 hlt7); have HP7 := Lib.hid (HM1.out.put (by omega) hO7 hg7 hat7 hlt7); have hb7 := HM1.out.bv.grown hg7 (fun e => HM1.out.ow.ne_blk HM1.out.bv (by decide) e.symm); have c7 := hb7.cell 0; have f7 := hb7.frozen 0; have l7 := hb7.lt; clear hb7 hn1 hn2 hO7 hg7 hat7 hlt7)
        | fail)
      obtain ⟨h1, h2, h3⟩ := HP7.out
      refine ⟨((KeepsOthers.alloc W (.cells #[.string x.dep.name, .int .u8 x.dep.op, .int .i64 x.dep.ep, .string x.dep.ver, .string x.dep.rel] 25)).trans h2).from _, (Kp.of_below HMW.out.bl.size (new_below W _)).t h3, .slice ao' (ds.length + 1) cap', ?_⟩
      rw [HS2.out]
      exact h1
    · have hkd : (x.kind == 1) = false := by simpa using hk1
      have HS2 := Lib.hid (show keyA ((pre ++ [x]).map PartD.key) = ds by rw [HS.out, if_neg hk1, List.append_nil])
      clear hm hbx HST HP HA4 hlen hk1
      gi_wp2
      refine ⟨KeepsFrom.refl _ _, Kp.refl _ _ _, v, ?_⟩
      rw [HS2.out]
      exact HMW.out
  case done =>
    rintro D ys W hD hS ⟨v, hm⟩ hKD
    subst ha0
    have hl : keyA (ys.map PartD.key) = r.atoms := by rw [hS, parts_atoms]
    rw [hl] at hm
    obtain ⟨ao, cp, rfl, _, _, _⟩ := hm.ow.form
    have c0 : W.cell? ⟨w.heap.size + 1, 0, none⟩ = some (.slice ao r.atoms.length cp) := hm.bv.cell 0
    have HD := Lib.hid (hm.bl.trans (belowK_b (w := w) (Nat.le_refl _) W D _ (.deferred none) (by omega) hKD rfl rfl))
    have HO := Lib.hid (own_walk (n0 := D) hm.ow (grownBy_putObj' W D (.deferred none)) (fun r e => by cases e; exact ⟨Nat.le_refl _, _, hKD, rfl⟩))
    have HKD := Lib.hid hKD
    have HH := Lib.hid hm.hi
    clear hm hS hKD HST HP HA4
    gi_wp2
    refine ⟨by simp, .inl ⟨_, _, rfl, run_takeDeferred HKD.out, ?_⟩⟩
    exact ⟨_, results_tmp rfl _ _ _, ao, cp, rfl, HO.out, HH.out, HD.out⟩
  case stop =>
    rintro D c pre W _ _ h _
    exact h.elim
end Go.Proofs.YtadogjnoklabdaaDoor
