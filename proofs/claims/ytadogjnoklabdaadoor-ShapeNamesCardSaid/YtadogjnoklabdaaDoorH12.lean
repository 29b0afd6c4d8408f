/- shape.parts: the recursive teller (parts$1). Conditions: as each theorem names them. -/
import Derived.Test.YtadogjnoklabdaaDoorH11
namespace Go.Proofs.YtadogjnoklabdaaDoor
open Go.ChangeShapes Go.WideShapes Go.ChangeAt Go.RowKit Go.Deep Go.Shelf
set_option maxRecDepth 100000
attribute [local go_sem] Oper.semAt_some

theorem round_any {F : Fence} (hd : F.depth = none) {m m' : Nat} {P : Program} {l : Nat} {f : FuncId} {tmps : Array Value} {assign body : Code} {w : World} {R : Ending → World → Prop}
    (h : RoundIn F m P l f tmps assign body w R) : RoundIn F m' P l f tmps assign body w R := ⟨h.1, fun c cs _ => h.2 c cs (fun d h => by rw [hd] at h; cases h)⟩
theorem yield_any {F : Fence} (hd : F.depth = none) {m : Nat} (m' : Nat) {P : Program} {l : Nat} {args : Array Value} {W : World} {R : Ending → World → Prop} (h : YieldAt F m P l args W R) : YieldAt F m' P l args W R := by
  obtain ⟨fn, tmps, assign, body, hy, hR⟩ := h
  exact ⟨fn, tmps, assign, body, hy, round_any hd hR⟩

abbrev selfV (Bt : Nat) : Value := .func (.func 34) #[] #[.pointer (some ⟨Bt, 0, none⟩)]
theorem key_of {r : RichD} {a : Option Addr} {c : Nat} {al : Bool} (h1 : fitR r.kind r.dep) (h2 : r.n ≤ 9223372036854775807) : (PartD.mk r.kind r.dep r.n a c al h1 h2).key = (r.kind, r.dep, r.n, al) := rfl

theorem cell_lt {W : World} {k i : Nat} {v : Value} (h : W.cell? ⟨k, i, none⟩ = some v) : k < W.heap.size := by
  cases ho : W.heap[k]? with
  | none => simp [World.cell?, ho] at h
  | some o => exact (Array.getElem?_eq_some_iff.1 ho).1
theorem cat_pre {α : Type} {f : Nat → List α} {k n : Nat} {zs : List α} (hk : k < n) (h : zs <+: f k) : catN f k ++ zs <+: catN f n :=
  ((List.prefix_append_right_inj _).2 h).trans (catN_pre (f := f) (show k + 1 ≤ n by omega))

set_option maxHeartbeats 8000000 in
theorem tell_in (W0 : World) (l Bt B N : Nat) (hB0 : W0.heap.size ≤ B) (hBt : Bt ≠ B) (J Jx : List PartD → World → Prop)
    (hJ : ∀ ys W o, J ys W → J ys (W.alloc o))
    (hY : ∀ m pre x W, J pre W → pre.length < N → YieldAt Fence.wide m Tryd.prog l (encP x) W fun e W' =>
      (e = .returned (.bool true) ∧ J (pre ++ [x]) W' ∧ Kp B W0.heap.size W W') ∨ (e = .returned (.bool false) ∧ Jx (pre ++ [x]) W'))
    (r : RichD) (s : Value) (hs : IsArgs W0 r s) : ∀ (n : Nat) (pre : List PartD) (al : Bool) (W : World), Below W0.heap.size W0 W → W0.heap.size ≤ W.heap.size → B < W.heap.size → Blk W Bt 57 #[selfV Bt] → J pre W → pre.length + r.count ≤ N →
      CallsIn Fence.wide n Tryd.prog 34 #[r.val s, .bool al, .func (.yield l) #[] #[], .pointer (some ⟨Bt, 0, none⟩)] W fun e W' =>
        (e = .returned (.bool true) ∧ (∃ ys : List PartD, ys.map PartD.key = r.parts al ∧ J (pre ++ ys) W') ∧ Kp B W0.heap.size W W') ∨ (e = .returned (.bool false) ∧ ∃ ys : List PartD, ys.map PartD.key <+: r.parts al ∧ Jx (pre ++ ys) W') := by
  have _hb := hB0
  induction hs with
  | mk r a c S hd hn hA hS ih =>
    intro n pre al W hW hWs hBW hcB hJp hN
    have hdd : ∀ k : Nat, (Fence.wide.depth.isSome = true → 1 ≤ k) := fun k h => by cases h
    have hb1 : Below W.heap.size W (W.alloc (richObj r (.slice a r.n c))) := below_new _ _
    have hk1 : Kp B W0.heap.size W (W.alloc (richObj r (.slice a r.n c))) := Kp.of_below hWs hb1
    have hr1 := RichB.new W r (.slice a r.n c)
    have hlen := parts_eq r al
    have hcnt := count_eq r
    obtain ⟨x, hx⟩ : ∃ x : PartD, x = ⟨r.kind, r.dep, r.n, a, c, al, hd, hn⟩ := ⟨_, rfl⟩
    obtain ⟨al', hal⟩ : ∃ al', al' = aloneE r.kind al := ⟨_, rfl⟩
    obtain ⟨fn, tmps, assign, body, hy, hR0⟩ := hY (n - 1) pre x _ (hJ pre W (richObj r (.slice a r.n c)) hJp) (by omega)
    have HxK := Lib.hid (show x.key = (r.kind, r.dep, r.n, al) by rw [hx]; rfl)
    obtain ⟨f, hf⟩ : ∃ f : Nat → List KeyD, f = fun j => (r.args j).parts al' := ⟨_, rfl⟩
    have HP := Lib.hid (show r.parts al = (r.kind, r.dep, r.n, al) :: catN f r.n by rw [parts_eq, hf, hal])
    have HF := Lib.hid (show ∀ j, f j = (r.args j).parts al' from fun j => by rw [hf])
    have HC := Lib.hid (show ∀ k (ys : List PartD), k < r.n → ys.map PartD.key = catN f k → ys.length + (r.args k).count + 1 ≤ r.count from fun k ys hk h => by
      have h1 := congrArg List.length h
      rw [List.length_map, catN_len (g := fun j => (r.args j).count) k (fun j _ => by rw [hf]; exact parts_len _ _)] at h1
      have h2 := sumN_mono (f := fun j => (r.args j).count) (show k + 1 ≤ r.n by omega)
      simp only [sumN] at h2
      have h3 := count_eq r
      omega)
    clear hf
    have hR := hR0.mono (R' := fun e W2 => (e = .returned (.bool true) ∧ Hid (J (pre ++ [x]) W2) ∧ Hid (Kp B W0.heap.size W W2) ∧ Hid (RichB W2 W.heap.size r (.slice a r.n c)) ∧ W2.cell? ⟨W.heap.size, 0, none⟩ = some (.int .u8 r.kind) ∧ W2.cell? ⟨W.heap.size, 6, none⟩ = some (.slice a r.n c)) ∨ (e = .returned (.bool false) ∧ Hid (Jx (pre ++ [x]) W2)))
      (fun e W2 h => h.elim (fun ⟨he, hj, hk⟩ => by
        have hr2 := hr1.kc hk.kc (by omega)
        exact .inl ⟨he, Lib.hid hj, Lib.hid (hk1.t hk), Lib.hid hr2, hr2.at_.c0, hr2.at_.c6⟩) (fun ⟨he, hj⟩ => .inr ⟨he, Lib.hid hj⟩))
    have HI := Lib.hid (fun j hj n pre W => ih j hj n pre al' W)
    have HA := Lib.hid (show ∀ w', Below W0.heap.size W0 w' → ∀ j, j < r.n → ∃ b o, a = some ⟨b, o, none⟩ ∧ RichAt w' b (o + j * 7) (r.args j) (S j) from fun w' h j hj => by
      obtain ⟨b, o, h1, h2⟩ := hA j hj
      exact ⟨b, o, h1, h2.below h⟩)
    have HSf := Lib.hid (show ∀ j, j < r.n → ∃ a' c', S j = .slice a' (r.args j).n c' from fun j hj => (hS j hj).form)
    have HW := Lib.hid (⟨hW, hWs, hBW, hN⟩ : Below W0.heap.size W0 W ∧ W0.heap.size ≤ W.heap.size ∧ B < W.heap.size ∧ pre.length + r.count ≤ N)
    have HcB := Lib.hid hcB
    rw [hx] at hy
    dsimp only [encP] at hy
    clear hR0 hb1 hk1 hr1 hlen hcnt hx hA hS ih hW hWs hBW hN hcB hJp
    have hcase : (al = true ∧ al' = true) ∨ (al = false ∧ (r.kind == 6) = true ∧ al' = true) ∨ (al = false ∧ (r.kind == 6) = false ∧ (r.kind == 7) = true ∧ al' = true) ∨ (al = false ∧ (r.kind == 6) = false ∧ (r.kind == 7) = false ∧ al' = false) := by
      rw [hal]
      unfold aloneE
      cases al <;> cases (r.kind == 6) <;> cases (r.kind == 7) <;> simp
    clear hal
    refine callsIn_of_wp Tryd.func34 rfl trivial ?_ rfl
    simp only [Tryd.ntmps34, List.size_toArray, List.length_cons, List.length_nil, Nat.reduceAdd, Nat.reduceSub, Array.replicate_succ, Array.replicate_zero, List.push_toArray, List.append_toArray, List.nil_append, List.cons_append]
    unfold RichD.val richV
    rcases hcase with ⟨rfl, rfl⟩ | ⟨rfl, k6, rfl⟩ | ⟨rfl, k6, k7, rfl⟩ | ⟨rfl, k6, k7, rfl⟩
    all_goals
      gi_wp2_with ((try refine ⟨hdd _, ?_⟩); refine hR.mono ?_; clear hR; rintro e W2 (⟨rfl, HJ2, HK2, HR2, d0, d6⟩ | ⟨rfl, HX2⟩))
      · gi_loopw [29] (fun i wr => ∃ (k : Nat) (ys : List PartD), k ≤ r.n ∧ i = .int .i64 k ∧ Hid (ys.map PartD.key = catN f k ∧ J (pre ++ x :: ys) wr ∧ Kp B W0.heap.size W wr ∧ RichB wr W.heap.size r (.slice a r.n c))) (fun i wr => r.n - (intOf i).toNat)
        case atStart => exact ⟨0, [], by omega, rfl, Lib.hid ⟨rfl, HJ2.out, HK2.out, HR2.out⟩⟩
        case round =>
          obtain ⟨k, ys, hk, rfl, HQ⟩ := hrel
          by_cases hlt : k < r.n
          · have hki : (k : Int) < (r.n : Int) := by omega
            obtain ⟨q1, q2, q3, q4⟩ := HQ.out
            obtain ⟨b, o, ha, ⟨e0, e1, e2, e3, e4, e5, e6, e7⟩⟩ := HA.out wr (HW.out.1.trans q3.bl) k hlt
            subst ha
            obtain ⟨a', c', hS'⟩ := HSf.out k hlt
            have hbn : Below wr.heap.size wr (wr.alloc (richObj (r.args k) (S k))) := below_new _ _
            have hwr : W.heap.size ≤ wr.heap.size := q3.kc.size
            have hkn : Kp B W0.heap.size wr (wr.alloc (richObj (r.args k) (S k))) := Kp.of_below (by have := HW.out.2.1; omega) hbn
            have hM0 := HI.out k hlt (n - 1) (pre ++ x :: ys) (wr.alloc (richObj (r.args k) (S k))) (HW.out.1.trans (q3.bl.trans hkn.bl)) (by have := HW.out.2.1; have := hbn.size; omega) (by have := HW.out.2.2.1; have := hbn.size; omega) (hkn.kc.blk hBt (q3.kc.blk hBt HcB.out rfl) rfl) (hJ _ _ _ q2) (by
              have h1 := HC.out k ys hlt q1
              have h2 := HW.out.2.2.2
              simp only [List.length_append, List.length_cons]
              omega)
            have HM := Lib.hid (hM0.mono (R' := fun e w4 => (e = .returned (.bool true) ∧ Hid (∃ zs : List PartD, zs.map PartD.key = f k ∧ J (pre ++ x :: ys ++ zs) w4) ∧ Hid (Kp B W0.heap.size W w4 ∧ RichB w4 W.heap.size r (.slice (some ⟨b, o, none⟩) r.n c))) ∨ (e = .returned (.bool false) ∧ Hid (∃ zs : List PartD, zs.map PartD.key <+: f k ∧ Jx (pre ++ x :: ys ++ zs) w4)))
              (fun e w4 h => h.elim (fun ⟨he, hz, hk4⟩ => .inl ⟨he, Lib.hid (by rw [HF.out]; exact hz), Lib.hid ⟨q3.t (hkn.t hk4), (q4.kc hkn.kc (by have := HW.out.2.2.1; omega)).kc hk4.kc (by have := HW.out.2.2.1; omega)⟩⟩) (fun ⟨he, hz⟩ => .inr ⟨he, Lib.hid (by rw [HF.out]; exact hz)⟩)))
            have hself : wr.cell? ⟨Bt, 0, none⟩ = some (.func (.func 34) #[] #[.pointer (some ⟨Bt, 0, none⟩)]) := (q3.kc.blk hBt HcB.out rfl).cell 0
            have hbtl : Bt < wr.heap.size := cell_lt hself
            have hbtn : Bt ≠ wr.heap.size := by omega
            have hself2 : (wr.alloc (richObj (r.args k) (.slice a' (r.args k).n c'))).cell? ⟨Bt, 0, none⟩ = some (.func (.func 34) #[] #[.pointer (some ⟨Bt, 0, none⟩)]) := by
              rw [← hS']; exact (hkn.kc.blk hBt (q3.kc.blk hBt HcB.out rfl) rfl).cell 0
            simp only [hS'] at HM e6
            clear q1 q2 q3 q4 hM0 hbn hkn
            gi_wp2_with ((try refine ⟨trivial, ?_⟩); (try refine ⟨hdd _, ?_⟩); gi_at_call 34; refine HM.out.mono ?_; clear HM; rintro e w4 (⟨rfl, HZ, HK4⟩ | ⟨rfl, HX4⟩))
            · go_roundw
              case rel =>
                obtain ⟨zs, hz1, hz2⟩ := HZ.out
                exact ⟨k + 1, ys ++ zs, by omega, by go_num, Lib.hid ⟨by rw [List.map_append, HQ.out.1, hz1]; rfl, by simpa using hz2, HK4.out.1, HK4.out.2⟩⟩
              case measure => simp [intOf]; omega
            · go_ret
              obtain ⟨zs, hz1, hz2⟩ := HX4.out
              refine .inr ⟨rfl, x :: ys ++ zs, ?_, by simpa using hz2⟩
              rw [HP.out, List.map_append, List.map_cons, HxK.out, HQ.out.1, List.cons_append]
              exact (List.prefix_cons_inj _).2 (cat_pre hlt hz1)
          · obtain rfl : k = r.n := by omega
            gi_wp2
            go_ret
            exact .inl ⟨rfl, ⟨x :: ys, by rw [HP.out, List.map_cons, HxK.out, HQ.out.1], HQ.out.2.1⟩, HQ.out.2.2.1⟩
      · go_ret
        exact .inr ⟨rfl, [x], by rw [HP.out]; simp [HxK.out], HX2.out⟩
end Go.Proofs.YtadogjnoklabdaaDoor
