/- ShapeNames: the three Atoms' boxes; the list of many parts. Conditions: as each theorem names them. -/
import Derived.Test.YtadogjnoklabdaaDoorH49
import Derived.Test.YtadogjnoklabdaaDoorH50
namespace Go.Proofs.YtadogjnoklabdaaDoor
open Go.ChangeShapes Go.WideShapes Go.ChangeAt Go.RowKit Go.Deep
set_option maxRecDepth 100000

/-- The three Atoms' boxes. -/
structure NSt (w : World) (g : Nat) (W : World) : Prop where
  bl : Below w.heap.size w W
  a : RichB W g aR nilS
  b : RichB W (g + 1) bR nilS
  c : RichB W (g + 2) cR nilS
theorem NSt.below {w W W' : World} {g : Nat} (h : NSt w g W) (hb : Below W.heap.size W W') : NSt w g W' := ⟨below_t' h.bl hb, h.a.below hb, h.b.below hb, h.c.below hb⟩
theorem NSt.far {w W : World} {g : Nat} (h : NSt w g W) (hw : w.heap.size ≤ g) {p : Addr} (hp : g + 2 < p.block) (u : Value) : NSt w g (W.setCell p u) :=
  ⟨h.bl.setCell (by omega) _, Blk.far h.a (by omega) u, Blk.far h.b (by omega) u, Blk.far h.c (by omega) u⟩
theorem NSt.grown {w W W' : World} {g : Nat} (h : NSt w g W) (hw : w.heap.size ≤ g) {row : Option Nat} (hg : W.grownBy W' row) (hr : ∀ b, row = some b → g + 2 < b) : NSt w g W' := by
  have hne : ∀ b, b < g + 3 → row ≠ some b := fun b h1 h2 => by have := hr b h2; omega
  have hb7 : Below w.heap.size W W' := ⟨hg.os, hg.tape, hg.output, hg.size, fun b h1 => hg.block b (Nat.lt_of_lt_of_le h1 h.bl.size) (fun e => hne b (by omega) e.symm)⟩
  exact ⟨h.bl.trans hb7, Blk.grown h.a hg (fun e => hne g (by omega) e.symm), Blk.grown h.b hg (fun e => hne (g + 1) (by omega) e.symm), Blk.grown h.c hg (fun e => hne (g + 2) (by omega) e.symm)⟩

abbrev manyC (k : Nat) : List Value := enR (fun _ => aR) (fun _ => nilS) k
/-- The list under way: k parts. -/
structure LSt (w : World) (g k : Nat) (v : Value) (W : World) : Prop where
  st : NSt w g W
  ow : Own W 28 7 v k (manyC k)
  hi : ∀ b, v.ownBlock = some b → g + 2 < b
theorem LSt.below {w W W' : World} {g k : Nat} {v : Value} (h : LSt w g k v W) (hb : Below W.heap.size W W') : LSt w g k v W' := ⟨h.st.below hb, h.ow.new hb, h.hi⟩
theorem LSt.new {w W : World} {g : Nat} (h : NSt w g W) : LSt w g 0 (.slice none 0 0) W := ⟨h, Own.nil _ _ _, fun b h => by simp [Value.ownBlock] at h⟩
theorem many_one (k : Nat) : ∀ u ∈ manyC k, u.oneCell' = true := enR_one k fun _ _ => rfl
theorem LSt.put {w W W' : World} {g k : Nat} {v v' : Value} (h : LSt w g k v W) (hw : w.heap.size ≤ g) (o : Obj) (hO : Own W' 28 7 v' (k + 1) (manyC k ++ richCs aR nilS)) (hg : (W.alloc o).grownBy W' v.ownBlock)
    (hat : v'.ownBlock = v.ownBlock ∨ v'.ownBlock = some (W.alloc o).heap.size) : LSt w g (k + 1) v' W' := by
  have hs := (h.below (new_b W o)).st
  refine ⟨hs.grown hw hg h.hi, hO, fun b hb => ?_⟩
  rcases hat with e | e
  · exact h.hi b (e ▸ hb)
  · rw [e] at hb
    injection hb with hb
    have := hs.c.lt
    omega
theorem many_at (m : Nat) (l : List RichD) (j : Nat) (hj : j < m) : (manyR m l).args j = aR := by
  show (List.replicate m aR ++ l).getD j .nil = _
  rw [List.getD_eq_getElem?_getD, List.getElem?_append_left (by simpa using hj), List.getElem?_replicate_of_lt hj]
  rfl
theorem many_n (m : Nat) (l : List RichD) : (manyR m l).n = m + l.length := by
  show (List.replicate m aR ++ l).length = _
  simp
theorem LSt.many {w W : World} {g : Nat} {ao : Option Addr} {cp : Nat} (h : LSt w g 24 (.slice ao 24 cp) W) (m c : Nat) (hm : m ≤ 24) : IsArgs W (manyR m []) (.slice ao m c) := by
  have h1 := IsArgs.mk (w := W) (manyR m []) ao c (fun _ => nilS) (fit_no 3 (by decide)) (by rw [many_n]; simp; omega) (fun j hj => ?_) (fun j hj => ?_)
  · rw [many_n] at h1
    exact h1
  · rw [many_n] at hj
    obtain ⟨b, o, e, _, _, h2⟩ := h.ow.rich j (by simp at hj; omega)
    refine ⟨b, o, e, ?_⟩
    rw [many_at m [] j (by simpa using hj)]
    exact h2
  · rw [many_n] at hj
    rw [many_at m [] j (by simpa using hj)]
    exact is_leaf _ 1 (dN (oneS 97)) ⟨⟨show (1 : Nat) ≤ 9223372036854775807 from by decide, show (⟨#[]⟩ : ByteArray).size ≤ 9223372036854775807 from by decide, show (⟨#[]⟩ : ByteArray).size ≤ 9223372036854775807 from by decide⟩, by decide, by decide⟩
theorem many_last (d : RichD) : (manyR 24 [d]).args 24 = d := by
  show (List.replicate 24 aR ++ [d]).getD 24 .nil = _
  rfl
/-- The list with a further part. -/
theorem many_more {W : World} {ao : Option Addr} {cp : Nat} {d : RichD} {s : Value} (hO : Own W 28 7 (.slice ao 25 cp) 25 (manyC 24 ++ richCs d s)) (hd : IsArgs W d s) : IsArgs W (manyR 24 [d]) (.slice ao 25 cp) := by
  have e : manyC 24 ++ richCs d s = enR (fun j => (manyR 24 [d]).args j) (fun j => if j < 24 then nilS else s) 25 := by
    show _ = enR _ _ 24 ++ richCs ((manyR 24 [d]).args 24) (if 24 < 24 then nilS else s)
    rw [many_last, if_neg (by omega)]
    refine congrArg (· ++ _) ?_
    exact cat_congr 24 fun j hj => by
      show richCs aR nilS = richCs ((manyR 24 [d]).args j) (if j < 24 then nilS else s)
      rw [many_at 24 [d] j hj, if_pos hj]
  rw [e] at hO
  have h1 := IsArgs.mk (w := W) (manyR 24 [d]) ao cp (fun j => if j < 24 then nilS else s) (fit_no 3 (by decide)) (by rw [many_n]; show 25 ≤ 9223372036854775807; decide) (fun j hj => ?_) (fun j hj => ?_)
  · rw [many_n] at h1
    exact h1
  · rw [many_n] at hj
    obtain ⟨b, o, e, _, _, h2⟩ := hO.rich j hj
    exact ⟨b, o, e, h2⟩
  · rw [many_n] at hj
    have hj : j < 25 := hj
    show IsArgs W _ (if j < 24 then nilS else s)
    by_cases h24 : j < 24
    · rw [many_at 24 [d] j h24, if_pos h24]
      exact is_leaf _ 1 (dN (oneS 97)) ⟨⟨show (1 : Nat) ≤ 9223372036854775807 from by decide, show (⟨#[]⟩ : ByteArray).size ≤ 9223372036854775807 from by decide, show (⟨#[]⟩ : ByteArray).size ≤ 9223372036854775807 from by decide⟩, by decide, by decide⟩
    · obtain rfl : j = 24 := by omega
      rw [many_last, if_neg h24]
      exact hd
theorem wpList_want {P : Program} {ops : Array Oper} {rest : List Oper} {o : Oper} {a : Act} {w : World} {Q : Exit → Act → World → Prop} (hw : Region.wanted o (yielded ops a.tmps) = true) (h : o.wp P a w (wpList P ops Q rest) Q) : wpList P ops Q (o :: rest) a w := by
  unfold wpList
  rw [if_pos hw]
  exact .inl h
theorem LSt.last {w W Wd W' : World} {g cp : Nat} {v : Value} {ao : Option Addr} {d : RichD} {s : Value} (h : LSt w g 24 v W) (hw : w.heap.size ≤ g) (hb : Below W.heap.size W Wd) (hA : ArgsIn (fun x => W.heap.size ≤ x) Wd d s) (o : Obj)
    (hO : Own W' 28 7 (.slice ao 25 cp) 25 (manyC 24 ++ richCs d s)) (hg : (Wd.alloc o).grownBy W' v.ownBlock) : NSt w g W' ∧ IsArgs W' (manyR 24 [d]) (.slice ao 25 cp) := by
  have h2 := h.below (below_t' hb (new_b Wd o))
  refine ⟨h2.st.grown hw hg h.hi, many_more hO ?_⟩
  have hz : (Wd.alloc o).heap.size = Wd.heap.size + 1 := by simp
  have h3 := hA.keep (B' := fun _ => True) (w' := W') (by have := hg.size; omega) fun x h4 h5 => ⟨(hg.block x (by omega) (fun e => by have := h.ow.lt x e.symm; omega)).trans (Below.heap_alloc Wd o x h5), trivial⟩
  exact h3.is
/-- May's answers. -/
theorem may_at {w W : World} {r : RichD} {s : Value} (hb : Below w.heap.size w W) (hW : Words w) (hO : Ops w) (hs : IsArgs W r s) (hc : r.count ≤ 100) (wh : Int) (hwh : 0 ≤ wh ∧ wh < 256) (t : Int) (ht : mayE r wh = t) :
    Calls Tryd.prog 11 #[r.val s, .int .u8 wh] W fun e w' => e = .returned (.int .i64 t) ∧ Below W.heap.size W w' := by
  have h := may_any W r s hs W (Below.refl _ _) (by omega) wh hwh (hW.below hb) (hO.below hb)
  rw [ht] at h
  exact h
theorem deep_at (n : Nat) (hn : n ≤ 100) (W : World) (r : RichD) (hr : r = deepR n) : Calls Tryd.prog 23 #[.int .i64 n] W fun e w' => ∃ ao c, e = .returned (.agg #[.int .u8 r.kind, .string r.dep.name, .int .u8 r.dep.op, .int .i64 r.dep.ep, .string r.dep.ver, .string r.dep.rel, .slice ao r.n c]) ∧ ArgsIn (fun x => W.heap.size ≤ x) w' r (.slice ao r.n c) ∧ Below W.heap.size W w' := by
  subst hr
  refine (deep_any n hn W).mono ?_
  rintro e w' ⟨s, rfl, h1, h2⟩
  obtain ⟨ao, c, rfl⟩ := h1.is.form
  exact ⟨ao, c, rfl, h1, h2⟩
/-- A deep one's box. -/
structure DSt (w : World) (g : Nat) (r : RichD) (s : Value) (W : World) : Prop where
  bl : Below w.heap.size w W
  bx : RichB W g r s
  ia : IsArgs W r s
theorem DSt.below {w W W' : World} {g : Nat} {r : RichD} {s : Value} (h : DSt w g r s W) (hb : Below W.heap.size W W') : DSt w g r s W' := ⟨below_t' h.bl hb, h.bx.below hb, h.ia.kept hb⟩
theorem count_at {W : World} {r : RichD} {s : Value} (hs : IsArgs W r s) (n : Nat) (hn : n ≤ 100) (h : r.count = n) : Calls Tryd.prog 12 #[r.val s] W fun e w' => e = .returned (.int .i64 n) ∧ Below W.heap.size W w' := by
  have h1 := count_any W r s hs W (Below.refl _ _) (by omega)
  rw [h] at h1
  exact h1
theorem depth_at {W : World} {r : RichD} {s : Value} (hs : IsArgs W r s) (hc : r.count ≤ 100) (n : Nat) (h : r.depth = n) : Calls Tryd.prog 13 #[r.val s] W fun e w' => e = .returned (.int .i64 n) ∧ Below W.heap.size W w' := by
  have h1 := depth_any W r s hs W (Below.refl _ _) (by omega)
  rw [h] at h1
  exact h1
theorem atoms_no {W : World} {r : RichD} {s : Value} (hs : IsArgs W r s) (hc : r.count ≤ 100) (h : r.atoms = []) : Calls Tryd.prog 15 #[r.val s] W fun e w' => ∃ ao c, e = .returned (.slice ao 0 c) ∧ Below W.heap.size W w' := by
  have h1 := atoms_any W r s hs W (Below.refl _ _) (by omega)
  rw [h] at h1
  refine h1.mono ?_
  rintro e w' ⟨ao, c, rfl, _, _, h2⟩
  exact ⟨ao, c, rfl, h2⟩
theorem atoms_three {W : World} {s : Value} (hs : IsArgs W (deepR 3) s) : Calls Tryd.prog 15 #[(deepR 3).val s] W fun e w' => ∃ b o c, e = .returned (.slice (some ⟨b, o, none⟩) 4 c) ∧ (b < w'.heap.size ∧ w'.cell? ⟨b, o + 15, none⟩ = some (.string { data := #[97] })) ∧ Below W.heap.size W w' := by
  refine (atoms_any W (deepR 3) s hs W (Below.refl _ _) (by rw [deep3c.1]; decide)).mono ?_
  rintro e w' ⟨ao, c, rfl, h1, _, h2⟩
  obtain ⟨ao', c', he, _, _, hc⟩ := h1.form
  injection he with he _ _
  subst he
  obtain ⟨b, o, rfl, hcells, hf, hlt⟩ := hc (by rw [deep3c.2.2]; decide)
  have hx : (enD (deepR 3).atoms)[15]? = some (.string { data := #[97] }) := by rfl
  have hl : 15 < (enD (deepR 3).atoms).length := by
    rcases Nat.lt_or_ge 15 (enD (deepR 3).atoms).length with h | h
    · exact h
    · rw [List.getElem?_eq_none h] at hx
      cases hx
  exact ⟨b, o, c, by rw [deep3c.2.2], ⟨hlt, (hcells 15 hl).trans hx⟩, h2⟩
theorem same_at {W : World} {r r2 : RichD} {s s2 : Value} (h1 : IsArgs W r s) (h2 : IsArgs W r2 s2) (v : Bool) (hv : sameE r r2 = v) : Calls Tryd.prog 18 #[r.val s, r2.val s2] W fun e w' => e = .returned (.bool v) ∧ Below W.heap.size W w' := by
  have h := same_any W r s r2 s2 W h1 h2 (Below.refl _ _)
  rw [hv] at h
  exact h
theorem fit_aR : fitR 1 (dN (oneS 97)) := ⟨⟨show (1 : Nat) ≤ 9223372036854775807 from by decide, show (⟨#[]⟩ : ByteArray).size ≤ 9223372036854775807 from by decide, show (⟨#[]⟩ : ByteArray).size ≤ 9223372036854775807 from by decide⟩, by decide, by decide⟩
abbrev zR : RichD := kR 0 []
theorem zero_is (W : World) : IsArgs W zR (.slice none 0 0) := is_leaf W 0 noDep (fit_no 0 (by decide))
theorem zero_facts : zR.count = 1 ∧ zR.depth = 1 ∧ zR.atoms = [] := ⟨rfl, rfl, rfl⟩
end Go.Proofs.YtadogjnoklabdaaDoor
