/- A law's arguments opened to cells, stated once for whatever program: the form's own reach, part by part; slices of structs of one-cell fields. Conditions: as each theorem names them. -/
import Derived.Test.YtdpjjnbelgaagaaGreatDoorG01
import Derived.Test.YtdpjjnbelgaagaaGreatDoorG13
import Derived.Deep.Slices
import Derived.Deep.Fields
import Derived.ChangeSame
import Derived.Test.YtdpjjnbelgaagaaGreatDoorG06
import Derived.Test.YtdpjjnbelgaagaaGreatDoorG05
import Derived.Test.YtdpjjnbelgaagaaGreatDoorRows
import Derived.Great.BuildSlice
import Derived.Laws.Tables
import Derived.OwnWalk
import Derived.BigQuiet
import Derived.Deep.RegionHeld3
namespace Go.Proofs.YtdpjjnbelgaagaaGreatDoor
open Go.ChangeShapes Go.WideShapes Go.ChangeAt Go.RowKit Go.Deep

section
variable {H : Type} {enc : TypeId × Value → H} {P : Program} {w : World} {base : Nat} {spare : Nat → Bool} {held : Bool}

/-- A reading is within the form's reach. -/
def Fit (P : Program) (t : TypeId) (d : DataW H) : Prop := ∀ x ∈ d.weights P t, x ≤ reachBytes
theorem fit_args : ∀ (ts : List TypeId) (ds : List (DataW H)), (DataW.weightsEach P ts ds).all (· ≤ reachBytes) = true → ∀ (j : Nat) t d, ts[j]? = some t → ds[j]? = some d → Fit P t d
  | [], _, _, j, t, d, ht, _ => by simp at ht
  | _ :: _, [], _, j, t, d, _, hd => by simp at hd
  | t :: ts, d :: ds, h, 0, t', d', ht, hd => by
    simp only [List.getElem?_cons_zero, Option.some.injEq] at ht hd
    subst ht hd
    intro x hx
    rw [List.all_eq_true] at h
    exact of_decide_eq_true (h x (by simp only [DataW.weightsEach, List.mem_append]; exact .inl hx))
  | t :: ts, d :: ds, h, j + 1, t', d', ht, hd => by
    refine fit_args ts ds ?_ j t' d' (by simpa using ht) (by simpa using hd)
    rw [List.all_eq_true] at h ⊢
    exact fun x hx => h x (by simp only [DataW.weightsEach, List.mem_append]; exact .inr hx)
theorem weights_mem {e : TypeId} : ∀ (l : List (DataW H)) (d : DataW H), d ∈ l → ∀ x ∈ d.weights P e, x ∈ DataW.weightsAll P e l
  | [], d, hd, _, _ => by cases hd
  | a :: l, d, hd, x, hx => by
    simp only [DataW.weightsAll, List.mem_append]
    rcases List.mem_cons.1 hd with rfl | h
    · exact .inl hx
    · exact .inr (weights_mem l d h x hx)
theorem Fit.slice {t e : TypeId} {elems spare : List (DataW H)} (h : Fit P t (.slice elems spare)) (hu : P.underlying t = some (.slice e)) : (elems.length + spare.length) * P.bytesOf e ≤ reachBytes ∧ ∀ d ∈ elems, Fit P e d := by
  have hw : (DataW.slice elems spare).weights P t = (elems.length + spare.length) * P.bytesOf e :: (DataW.weightsAll P e elems ++ DataW.weightsAll P e spare) := by simp [DataW.weights, hu]
  refine ⟨h _ (by rw [hw]; simp), fun d hd x hx => h x ?_⟩
  rw [hw]
  exact List.mem_cons_of_mem _ (List.mem_append_left _ (weights_mem elems d hd x hx))
theorem fit_each : ∀ (ts : List TypeId) (ds : List (DataW H)), (∀ x ∈ DataW.weightsEach P ts ds, x ≤ reachBytes) → ∀ (j : Nat) t d, ts[j]? = some t → ds[j]? = some d → Fit P t d := fun ts ds h j t d ht hd =>
  fit_args ts ds (by rw [List.all_eq_true]; exact fun x hx => decide_eq_true (h x hx)) j t d ht hd
theorem Fit.struct {t : TypeId} {fs : Array Field} {parts : List (DataW H)} (h : Fit P t (.agg parts)) (hu : P.underlying t = some (.struct fs)) (j : Nat) (f : Field) (d : DataW H) (hf : fs[j]? = some f) (hd : parts[j]? = some d) : Fit P f.type d := by
  have hw : (DataW.agg parts).weights P t = DataW.weightsEach P (fs.toList.map (·.type)) parts := by simp [DataW.weights, hu]
  refine fit_each (fs.toList.map (·.type)) parts (fun x hx => h x (by rw [hw]; exact hx)) j f.type d ?_ hd
  simp [hf]
theorem Fit.string {t : TypeId} {bs : List UInt8} (h : Fit P t (DataW.lit (H := H) (.string bs))) : bs.length ≤ 140737488351232 := by
  have := h bs.length (by simp [DataW.weights])
  simpa [reachBytes] using this
/-- An address at which a cell is read has no spot; what follows it lies behind it. -/
theorem addr_of_cell {a : Addr} {v : Value} (h : w.cell? (a.add 0) = some v) : ∃ b off, a = ⟨b, off, none⟩ ∧ b < w.heap.size := by
  obtain ⟨b, off, spot⟩ := a
  have ha : (⟨b, off, spot⟩ : Addr).add 0 = ⟨b, off, spot⟩ := rfl
  rw [ha] at h
  unfold World.cell? at h
  cases hb : w.heap[b]? with
  | none => simp [hb] at h
  | some o =>
    have hlt : b < w.heap.size := (Array.getElem?_eq_some_iff.1 hb).1
    cases spot with
    | none => exact ⟨b, off, rfl, hlt⟩
    | some s => cases o <;> simp [hb] at h
theorem add_plain (b off j : Nat) : (⟨b, off, none⟩ : Addr).add j = ⟨b, off + j, none⟩ := by unfold Addr.add; split <;> simp_all
end
end Go.Proofs.YtdpjjnbelgaagaaGreatDoor

namespace Go.Proofs.YtdpjjnbelgaagaaGreatDoor
open Go.ChangeShapes Go.WideShapes Go.ChangeAt Go.RowKit Go.Deep
set_option maxRecDepth 100000

theorem c28 : Tryz.prog.cellsOf 34 = 7 := by kernel_rfl
theorem c25 : Tryz.prog.cellsOf 32 = 5 := by kernel_rfl
theorem c23 : Tryz.prog.cellsOf 24 = 3 := by kernel_rfl
theorem c26 : Tryz.prog.cellsOf 26 = 1 := by kernel_rfl
theorem c9 : Tryz.prog.cellsOf 9 = 1 := by kernel_rfl
theorem c5 : Tryz.prog.cellsOf 5 = 1 := by kernel_rfl
theorem c3 : Tryz.prog.cellsOf 3 = 1 := by kernel_rfl
end Go.Proofs.YtdpjjnbelgaagaaGreatDoor

namespace Go.Proofs.YtdpjjnbelgaagaaGreatDoor
open Go.ChangeShapes Go.WideShapes Go.ChangeAt Go.RowKit Go.Deep
set_option maxRecDepth 100000

theorem bulk_all {H : Type} : ∀ l : List (DataW H), Rows.uptoBulkAll l = (l.map Rows.uptoBulk).sum
  | [] => by simp [Rows.uptoBulkAll]
  | d :: l => by simp [Rows.uptoBulkAll, bulk_all l]
theorem bulk_agg {H : Type} (l : List (DataW H)) : Rows.uptoBulk (.agg l) = (l.map Rows.uptoBulk).sum + 1 := by rw [Rows.uptoBulk, bulk_all]
theorem bulk_pos {H : Type} (d : DataW H) : 1 ≤ Rows.uptoBulk d := by
  cases d with
  | lit l => cases l <;> simp [Rows.uptoBulk]
  | nil => simp [Rows.uptoBulk]
  | ptr d => simp [Rows.uptoBulk]
  | slice elems spare => simp [Rows.uptoBulk]
  | agg parts => simp [Rows.uptoBulk]
  | iface t d => simp [Rows.uptoBulk]
  | map entries => simp [Rows.uptoBulk]
  | held h => simp [Rows.uptoBulk]
theorem bulk_str {H : Type} (s : ByteArray) : Rows.uptoBulk (DataW.lit (H := H) (.string s.data.toList)) = wtS s := by
  rw [Rows.uptoBulk, size_list]
  rfl
section
variable {H : Type} {enc : TypeId × Value → H} {W : World} {base : Nat} {spare : Nat → Bool} {held : Bool}
theorem sum_le : ∀ (ys : List Nat) (xs : List Nat), xs.length = ys.length → (∀ j (h1 : j < xs.length) (h2 : j < ys.length), xs[j] ≤ ys[j]) → xs.sum ≤ ys.sum
  | [], [], _, _ => Nat.le_refl _
  | y :: ys, x :: xs, hl, h => by
    simp only [List.sum_cons]
    have h1 := h 0 (by simp) (by simp)
    have h2 := sum_le ys xs (by simpa using hl) fun j k1 k2 => h (j + 1) (by simpa using k1) (by simpa using k2)
    simp only [List.getElem_cons_zero] at h1
    omega
theorem sum_mem : ∀ {l : List Nat} {x : Nat}, x ∈ l → x ≤ l.sum
  | y :: l, x, h => by
    simp only [List.sum_cons]
    rcases List.mem_cons.1 h with rfl | h
    · omega
    · have := sum_mem h; omega
theorem sum_len : ∀ l : List Nat, (∀ x ∈ l, 1 ≤ x) → l.length ≤ l.sum
  | [], _ => Nat.le_refl _
  | y :: l, h => by
    have h1 := h y (List.mem_cons_self ..)
    have h2 := sum_len l fun x hx => h x (List.mem_cons_of_mem _ hx)
    simp only [List.sum_cons, List.length_cons]
    omega
theorem open_list {α : Type} (K : Kd α) (wt : α → Nat) (T t : TypeId) (hu : Tryz.prog.underlying T = some (.slice t)) (hk : Tryz.prog.cellsOf t = K.size) (hK : 0 < K.size) (dx : α) (dr : K.R) (fuel : Nat)
    (hel : ∀ p, p < fuel → ∀ (cs : List Value) (y : DataW H × List MemPlace), DataW.trod enc Tryz.prog W base spare held p t cs = some y → Rows.uptoBulk y.1 ≤ 1048576 → ∃ x r, cs = K.cells x r ∧ K.holds anyB W x r ∧ wt x ≤ Rows.uptoBulk y.1)
    (c : Value) (y : DataW H × List MemPlace) (h : DataW.trod enc Tryz.prog W base spare held fuel T [c] = some y) (hb : Rows.uptoBulk y.1 ≤ 1048576) : ∃ l, LIn K anyB W l c ∧ wtL wt l ≤ Rows.uptoBulk y.1 := by
  rcases DataW.trod_slice hu h with ⟨h3, rfl⟩ | ⟨a, len, cap, elems, rest, p, hp, h3, rfl, _, _, hcm, hl, hi, _⟩
  · obtain rfl : c = .slice none 0 0 := by simpa using h3
    exact ⟨[], LIn.nil _ _ _, by simp [wtL, Rows.uptoBulk]⟩
  · obtain rfl : c = .slice (some a) len cap := by simpa using h3
    have hsum : (elems.map fun e => Rows.uptoBulk e.1).sum + 1 ≤ 1048576 := by
      rw [Rows.uptoBulk, bulk_all, bulk_all, List.map_map] at hb
      have e2 : (Rows.uptoBulk ∘ fun x : DataW H × List MemPlace => x.1) = fun e => Rows.uptoBulk e.1 := rfl
      rw [e2] at hb
      omega
    have hle : ∀ j (hj : j < elems.length), Rows.uptoBulk elems[j].1 ≤ 1048576 := fun j hj => by
      have := sum_mem (l := elems.map fun e => Rows.uptoBulk e.1) (x := Rows.uptoBulk elems[j].1) (List.mem_map.2 ⟨_, List.getElem_mem hj, rfl⟩)
      omega
    have hlb : len ≤ 1048576 := by
      have := sum_len (elems.map fun e => Rows.uptoBulk e.1) fun x hx => by
        obtain ⟨e, _, rfl⟩ := List.mem_map.1 hx
        exact bulk_pos _
      rw [List.length_map] at this
      omega
    have hone : ∀ j (hj : j < len), ∃ x r, W.cells? base (a.add (j * Tryz.prog.cellsOf t)) (Tryz.prog.cellsOf t) = some (K.cells x r) ∧ K.holds anyB W x r ∧ wt x ≤ Rows.uptoBulk (elems[j]'(by omega)).1 := fun j hj => by
      have h5 := hi j hj
      rw [List.getElem?_eq_getElem (by omega)] at h5
      obtain ⟨cs', hc, ht⟩ := Option.bind_eq_some_iff.1 h5
      obtain ⟨x, r, rfl, hr, hw⟩ := hel p (by omega) _ _ ht (hle j (by omega))
      exact ⟨x, r, hc, hr, hw⟩
    have hpl : 0 < len → ∃ b o, a = ⟨b, o, none⟩ := fun h0 => by
      obtain ⟨x, r, hc, _⟩ := hone 0 h0
      obtain ⟨_, hcl, hat⟩ := World.cells?_some hc
      have a0 := hat 0 (by omega)
      obtain ⟨v, hv⟩ : ∃ v, (K.cells x r)[0]? = some v := ⟨_, List.getElem?_eq_getElem (by rw [K.len]; exact hK)⟩
      rw [hv] at a0
      obtain ⟨b, off, h7, _⟩ := addr_of_cell a0
      rw [Nat.zero_mul] at h7
      exact ⟨b, off, h7⟩
    have hall : ∀ j : Nat, ∃ xr : α × K.R, ∀ hj : j < len, (∃ b o, some a = some ⟨b, o, none⟩ ∧ CellsAt W b (o + j * K.size) (K.cells xr.1 xr.2)) ∧ K.holds anyB W xr.1 xr.2 ∧ wt xr.1 ≤ Rows.uptoBulk (elems[j]'(by omega)).1 := fun j => by
      by_cases hj : j < len
      · obtain ⟨x, r, hc, hr, hw⟩ := hone j hj
        obtain ⟨_, hcl, hat⟩ := World.cells?_some hc
        refine ⟨(x, r), fun _ => ⟨?_, hr, hw⟩⟩
        obtain ⟨b, o, rfl⟩ := hpl (by omega)
        have k : ∀ i, i < K.size → W.cell? ⟨b, o + j * K.size + i, none⟩ = (K.cells x r)[i]? := fun i hi => by
          have h6 := hat i (by omega)
          rw [add_plain, add_plain, hk] at h6
          exact h6
        obtain ⟨v, hv⟩ : ∃ v, (K.cells x r)[0]? = some v := ⟨_, List.getElem?_eq_getElem (by rw [K.len]; exact hK)⟩
        have k0 := k 0 hK
        rw [hv] at k0
        exact ⟨b, o, rfl, cell_lt k0, fun i hi => k i (by rw [K.len] at hi; exact hi)⟩
      · exact ⟨(dx, dr), fun h => absurd h hj⟩
    obtain ⟨F, hF⟩ := Classical.axiomOfChoice hall
    have hlen : ((List.range len).map fun j => (F j).1).length = len := by simp
    refine ⟨(List.range len).map fun j => (F j).1, ⟨some a, cap, by rw [hlen], by rw [hlen]; omega, fun j hj => ?_⟩, ?_⟩
    · have hj' : j < len := by rw [hlen] at hj; exact hj
      obtain ⟨⟨b, o, h7, h8⟩, h9, _⟩ := hF j hj'
      refine ⟨b, o, (F j).2, h7, trivial, ?_, ?_⟩
      · simpa using h8
      · simpa using h9
    · have hs := sum_le (elems.map fun e => Rows.uptoBulk e.1) ((List.range len).map fun j => wt (F j).1) (by simp [hl]) fun j h1 h2 => by
        have hj' : j < len := by simpa using h1
        have := (hF j hj').2.2
        simpa using this
      unfold wtL
      rw [Rows.uptoBulk, bulk_all, bulk_all, List.map_map, List.map_map, List.map_map]
      have e1 : (wt ∘ fun j => (F j).1) = fun j => wt (F j).1 := rfl
      have e2 : (Rows.uptoBulk ∘ fun x : DataW H × List MemPlace => x.1) = fun e => Rows.uptoBulk e.1 := rfl
      rw [e1, e2]
      omega
theorem c3' : Tryz.prog.cellsOf 29 = 15 := by kernel_rfl
theorem cDs : Tryz.prog.cellsOf 25 = 1 := by kernel_rfl
theorem cSs : Tryz.prog.cellsOf 27 = 1 := by kernel_rfl
theorem cPs : Tryz.prog.cellsOf 36 = 1 := by kernel_rfl
theorem cRo : Tryz.prog.cellsOf 38 = 2 := by kernel_rfl
theorem cRos : Tryz.prog.cellsOf 39 = 1 := by kernel_rfl
theorem cDat : Tryz.prog.cellsOf 41 = 2 := by kernel_rfl
theorem open_str (fuel : Nat) (cs : List Value) (y : DataW H × List MemPlace) (h : DataW.trod enc Tryz.prog W base spare held fuel 9 cs = some y) : ∃ x, cs = [.string x] ∧ x.size ≤ 9223372036854775807 ∧ wtS x = Rows.uptoBulk y.1 := by
  obtain ⟨s, hs, hx, hm⟩ := DataW.trod_string Tryz.underlying9 h
  simp only [maxLen] at hm
  exact ⟨s, hs, by omega, by rw [hx]; exact (bulk_str s).symm⟩
theorem open_evr (fuel : Nat) (cs : List Value) (y : DataW H × List MemPlace) (h : DataW.trod enc Tryz.prog W base spare held fuel 24 cs = some y) :
    ∃ (ep : Int) (v r : ByteArray), cs = [.int .i64 ep, .string v, .string r] ∧ (-9223372036854775808 ≤ ep ∧ ep ≤ 9223372036854775807) ∧ v.size ≤ 9223372036854775807 ∧ r.size ≤ 9223372036854775807 ∧ wtS v + wtS r + 2 = Rows.uptoBulk y.1 := by
  obtain ⟨us, q, rfl, hy, hl, hul, hu⟩ := DataW.trod_struct Tryz.underlying24 h
  rw [c23] at hl
  match cs, hl with
  | [c3, c4, c5], _ =>
    match us, hul with
    | [u0, u1, u2], _ =>
      have k0 : DataW.trod enc Tryz.prog W base spare held q 3 [c3] = some u0 := by simpa [Go.Proofs.YtdpjjnbelgaagaaGreatDoor.c3] using hu 0 _ rfl
      have k1 : DataW.trod enc Tryz.prog W base spare held q 9 [c4] = some u1 := by simpa [c9] using hu 1 _ rfl
      have k2 : DataW.trod enc Tryz.prog W base spare held q 9 [c5] = some u2 := by simpa [c9] using hu 2 _ rfl
      obtain ⟨ep, hep, he0, hew⟩ := DataW.trod_int Tryz.underlying3 k0
      obtain ⟨v, hv, hv2, hv3⟩ := open_str _ _ _ k1
      obtain ⟨r, hr, hr2, hr3⟩ := open_str _ _ _ k2
      have h4 : -9223372036854775808 ≤ ep ∧ ep ≤ 9223372036854775807 := by
        have h4 := hew
        simp [Lit.wf, IntKind.min, IntKind.max, IntKind.signed, IntKind.bits] at h4
        omega
      simp only [List.cons.injEq, and_true] at hep hv hr
      subst hep hv hr
      have e0 : Rows.uptoBulk u0.1 = 1 := by rw [he0]; simp [Rows.uptoBulk]
      refine ⟨ep, v, r, rfl, h4, hv2, hr2, ?_⟩
      rw [hy]
      simp only [List.map_cons, List.map_nil, bulk_agg, List.sum_cons, List.sum_nil]
      omega
theorem open_dep (fuel : Nat) (cs : List Value) (y : DataW H × List MemPlace) (h : DataW.trod enc Tryz.prog W base spare held fuel 32 cs = some y) :
    ∃ d : DepD, cs = d.cs ∧ (d.fit ∧ 0 ≤ d.op ∧ d.op < 256) ∧ wtD d = Rows.uptoBulk y.1 := by
  obtain ⟨zs, m, rfl, hy, hl, hzl, hg⟩ := DataW.trod_struct Tryz.underlying32 h
  rw [c25] at hl
  match cs, hl with
  | [c1, c2, c3, c4, c5], _ =>
    match zs, hzl with
    | [z0, z1, z2], _ =>
      have g0 : DataW.trod enc Tryz.prog W base spare held m 9 [c1] = some z0 := by simpa [c9] using hg 0 _ rfl
      have g1 : DataW.trod enc Tryz.prog W base spare held m 5 [c2] = some z1 := by simpa [Go.Proofs.YtdpjjnbelgaagaaGreatDoor.c5] using hg 1 _ rfl
      have g2 : DataW.trod enc Tryz.prog W base spare held m 24 [c3, c4, c5] = some z2 := by simpa [c23] using hg 2 _ rfl
      clear hg
      obtain ⟨nm, hnm, hns, hnw⟩ := open_str _ _ _ g0
      obtain ⟨op, hop, ho0, how⟩ := DataW.trod_int Tryz.underlying5 g1
      obtain ⟨ep, ve, re, he, _, hvs, hrs, hew⟩ := open_evr _ _ _ g2
      have h3 : 0 ≤ op ∧ op < 256 := by
        have h4 := how
        simp [Lit.wf, IntKind.min, IntKind.max, IntKind.signed, IntKind.bits] at h4
        omega
      simp only [List.cons.injEq, and_true] at hnm hop he
      obtain ⟨rfl, rfl, rfl⟩ := he
      subst hnm hop
      have e0 : Rows.uptoBulk z1.1 = 1 := by rw [ho0]; simp [Rows.uptoBulk]
      refine ⟨⟨nm, op, ep, ve, re⟩, rfl, ⟨⟨hns, hvs, hrs⟩, h3.1, h3.2⟩, ?_⟩
      rw [hy]
      simp only [List.map_cons, List.map_nil, bulk_agg, List.sum_cons, List.sum_nil, wtD]
      omega
theorem sum_getD {g : RichD → Nat} : ∀ l : List RichD, sumN (fun j => g (l.getD j .nil)) l.length = (l.map g).sum := by
  intro l
  have h : ∀ n, n ≤ l.length → sumN (fun j => g (l.getD j .nil)) n = ((l.take n).map g).sum := by
    intro n
    induction n with
    | zero => intro _; simp [sumN]
    | succ n ih =>
      intro hn
      show sumN _ n + g (l.getD n .nil) = _
      have hn' : n < l.length := by omega
      rw [ih (by omega), List.take_succ_eq_append_getElem hn', List.map_append, List.sum_append, List.getD_eq_getElem?_getD, List.getElem?_eq_getElem hn']
      simp
  have := h l.length (Nat.le_refl _)
  rwa [List.take_length] at this
theorem wt_ofL (k : Int) (l : List RichD) : wtRs (ofL k l) = wtL wtR l := by
  unfold wtRs wtL
  rw [← sum_getD]
  rfl
theorem open_richw : ∀ (fuel : Nat) (cs : List Value) (y : DataW H × List MemPlace), DataW.trod enc Tryz.prog W base spare held fuel 34 cs = some y → Rows.uptoBulk y.1 ≤ 1048576 → ∃ r s, cs = richCs r s ∧ ArgsP anyB W r s ∧ wtR r ≤ Rows.uptoBulk y.1 := by
  intro fuel
  induction fuel using Nat.strongRecOn with
  | _ fuel ih =>
    intro cs y h hb
    obtain ⟨xs, n, hfu, hx, hl, hlen, hf⟩ := DataW.trod_struct Tryz.underlying34 h
    rw [c28] at hl
    match cs, hl with
    | [c0, c1, c2, c3, c4, c5, c6], _ =>
      match xs, hlen with
      | [x0, x1, x2], _ =>
        have h0 : DataW.trod enc Tryz.prog W base spare held n 5 [c0] = some x0 := by simpa [Go.Proofs.YtdpjjnbelgaagaaGreatDoor.c5] using hf 0 _ rfl
        have h1 : DataW.trod enc Tryz.prog W base spare held n 32 [c1, c2, c3, c4, c5] = some x1 := by simpa [c25] using hf 1 _ rfl
        have h2 : DataW.trod enc Tryz.prog W base spare held n 26 [c6] = some x2 := by simpa [c26] using hf 2 _ rfl
        clear hf h
        rw [hx] at hb
        simp only [List.map_cons, List.map_nil, bulk_agg, List.sum_cons, List.sum_nil] at hb
        obtain ⟨kd, hk, hk0, hkw⟩ := DataW.trod_int Tryz.underlying5 h0
        obtain rfl : c0 = .int .u8 kd := by simpa using hk
        obtain ⟨d, hd, hdf, hdw⟩ := open_dep _ _ _ h1
        obtain ⟨l, hli, hlw⟩ := open_list richK wtR 26 34 Tryz.underlying26 c28 (by show 0 < 7; omega) .nil (.slice none 0 0) n (fun p hp cs y h hb => ih p (by omega) cs y h hb) c6 x2 h2 (by omega)
        have h3 : 0 ≤ kd ∧ kd < 256 := by
          have h4 := hkw
          simp [Lit.wf, IntKind.min, IntKind.max, IntKind.signed, IntKind.bits] at h4
          omega
        have hal : argL (.node kd d l.length fun j => l.getD j .nil) = l := argL_ofL kd l
        have e0 : Rows.uptoBulk x0.1 = 1 := by rw [hk0]; simp [Rows.uptoBulk]
        simp only [DepD.cs, List.cons.injEq, and_true] at hd
        obtain ⟨rfl, rfl, rfl, rfl, rfl⟩ := hd
        refine ⟨.node kd d l.length fun j => l.getD j .nil, c6, rfl, (show LIn richK anyB W (argL (.node kd d l.length fun j => l.getD j .nil)) c6 from by rw [hal]; exact hli).args ⟨hdf.1, h3.1, h3.2⟩, ?_⟩
        rw [hx]
        have e1 : wtR (.node kd d l.length fun j => l.getD j .nil) = wtD d + 3 + (l.map wtR).sum := by
          rw [← sum_getD]
          rfl
        unfold wtL at hlw
        simp only [List.map_cons, List.map_nil, bulk_agg, List.sum_cons, List.sum_nil]
        omega
theorem open_deps (fuel : Nat) (c : Value) (y : DataW H × List MemPlace) (h : DataW.trod enc Tryz.prog W base spare held fuel 25 [c] = some y) (hb : Rows.uptoBulk y.1 ≤ 1048576) : ∃ l, LIn depK anyB W l c ∧ wtL wtD l ≤ Rows.uptoBulk y.1 :=
  open_list depK wtD 25 32 Tryz.underlying25 c25 (by show 0 < 5; omega) noDep () fuel (fun p _ cs y h _ => by
    obtain ⟨d, h1, h2, h3⟩ := open_dep p cs y h
    exact ⟨d, (), h1, h2, by omega⟩) c y h hb
theorem open_strs (fuel : Nat) (c : Value) (y : DataW H × List MemPlace) (h : DataW.trod enc Tryz.prog W base spare held fuel 27 [c] = some y) (hb : Rows.uptoBulk y.1 ≤ 1048576) : ∃ l, LIn strK anyB W l c ∧ wtL wtS l ≤ Rows.uptoBulk y.1 :=
  open_list strK wtS 27 9 Tryz.underlying27 c9 (by show 0 < 1; omega) emp () fuel (fun p _ cs y h _ => by
    obtain ⟨d, h1, h2, h3⟩ := open_str p cs y h
    exact ⟨d, (), h1, h2, by omega⟩) c y h hb
theorem open_riches (fuel : Nat) (c : Value) (y : DataW H × List MemPlace) (h : DataW.trod enc Tryz.prog W base spare held fuel 26 [c] = some y) (hb : Rows.uptoBulk y.1 ≤ 1048576) : ∃ r, LIn richK anyB W (argL r) c ∧ wtRs r ≤ Rows.uptoBulk y.1 := by
  obtain ⟨l, h1, h2⟩ := open_list richK wtR 26 34 Tryz.underlying26 c28 (by show 0 < 7; omega) .nil (.slice none 0 0) fuel (fun p _ cs y h hb => open_richw p cs y h hb) c y h hb
  exact ⟨ofL 0 l, by rw [argL_ofL]; exact h1, by rw [wt_ofL]; exact h2⟩
theorem open_pkg (fuel : Nat) (cs : List Value) (y : DataW H × List MemPlace) (h : DataW.trod enc Tryz.prog W base spare held fuel 29 cs = some y) (hb : Rows.uptoBulk y.1 ≤ 1048576) : ∃ p r, cs = pkgCs p r ∧ PkgIn anyB W p r ∧ wtP p ≤ Rows.uptoBulk y.1 := by
  obtain ⟨zs, m, rfl, hy, hl, hzl, hg⟩ := DataW.trod_struct Tryz.underlying29 h
  rw [c3'] at hl
  match cs, hl with
  | [k0, k1, k2, k3, k4, k5, k6, k7, k8, k9, k10, k11, k12, k13, k14], _ =>
    match zs, hzl with
    | [z0, z1, z2, z3, z4, z5, z6, z7, z8, z9, z10, z11, z12], _ =>
      have g0 : DataW.trod enc Tryz.prog W base spare held m 9 [k0] = some z0 := by simpa [c9] using hg 0 _ rfl
      have g1 : DataW.trod enc Tryz.prog W base spare held m 24 [k1, k2, k3] = some z1 := by simpa [c23] using hg 1 _ rfl
      have g2 : DataW.trod enc Tryz.prog W base spare held m 5 [k4] = some z2 := by simpa [c5] using hg 2 _ rfl
      have g3 : DataW.trod enc Tryz.prog W base spare held m 9 [k5] = some z3 := by simpa [c9] using hg 3 _ rfl
      have g4 : DataW.trod enc Tryz.prog W base spare held m 25 [k6] = some z4 := by simpa [cDs] using hg 4 _ rfl
      have g5 : DataW.trod enc Tryz.prog W base spare held m 26 [k7] = some z5 := by simpa [c26] using hg 5 _ rfl
      have g6 : DataW.trod enc Tryz.prog W base spare held m 26 [k8] = some z6 := by simpa [c26] using hg 6 _ rfl
      have g7 : DataW.trod enc Tryz.prog W base spare held m 25 [k9] = some z7 := by simpa [cDs] using hg 7 _ rfl
      have g8 : DataW.trod enc Tryz.prog W base spare held m 26 [k10] = some z8 := by simpa [c26] using hg 8 _ rfl
      have g9 : DataW.trod enc Tryz.prog W base spare held m 26 [k11] = some z9 := by simpa [c26] using hg 9 _ rfl
      have g10 : DataW.trod enc Tryz.prog W base spare held m 26 [k12] = some z10 := by simpa [c26] using hg 10 _ rfl
      have g11 : DataW.trod enc Tryz.prog W base spare held m 26 [k13] = some z11 := by simpa [c26] using hg 11 _ rfl
      have g12 : DataW.trod enc Tryz.prog W base spare held m 27 [k14] = some z12 := by simpa [cSs] using hg 12 _ rfl
      clear hg h
      rw [hy] at hb
      simp only [List.map_cons, List.map_nil, bulk_agg, List.sum_cons, List.sum_nil] at hb
      obtain ⟨nm, e0, s0, w0⟩ := open_str _ _ _ g0
      obtain ⟨ep, ve, re, e1, s1, s2, s3, w1⟩ := open_evr _ _ _ g1
      obtain ⟨ar, e2, a0, aw⟩ := DataW.trod_int Tryz.underlying5 g2
      obtain ⟨vd, e3, s4, w3⟩ := open_str _ _ _ g3
      obtain ⟨pv, l4, w4⟩ := open_deps _ _ _ g4 (by omega)
      obtain ⟨rq, l5, w5⟩ := open_riches _ _ _ g5 (by omega)
      obtain ⟨cn, l6, w6⟩ := open_riches _ _ _ g6 (by omega)
      obtain ⟨ob, l7, w7⟩ := open_deps _ _ _ g7 (by omega)
      obtain ⟨rc, l8, w8⟩ := open_riches _ _ _ g8 (by omega)
      obtain ⟨su, l9, w9⟩ := open_riches _ _ _ g9 (by omega)
      obtain ⟨sg, l10, w10⟩ := open_riches _ _ _ g10 (by omega)
      obtain ⟨en, l11, w11⟩ := open_riches _ _ _ g11 (by omega)
      obtain ⟨fl, l12, w12⟩ := open_strs _ _ _ g12 (by omega)
      have h3 : 0 ≤ ar ∧ ar < 256 := by
        have h4 := aw
        simp [Lit.wf, IntKind.min, IntKind.max, IntKind.signed, IntKind.bits] at h4
        omega
      simp only [List.cons.injEq, and_true] at e0 e1 e2 e3
      obtain ⟨rfl, rfl, rfl⟩ := e1
      subst e0 e2 e3
      have b2 : Rows.uptoBulk z2.1 = 1 := by rw [a0]; simp [Rows.uptoBulk]
      refine ⟨⟨nm, ep, ve, re, ar, vd, pv, rq, cn, ob, rc, su, sg, en, fl⟩, ⟨k6, k7, k8, k9, k10, k11, k12, k13, k14⟩, rfl, ⟨s0, s2, s3, s4, h3, s1, l4, l5, l6, l7, l8, l9, l10, l11, l12⟩, ?_⟩
      rw [hy]
      simp only [List.map_cons, List.map_nil, bulk_agg, List.sum_cons, List.sum_nil, wtP]
      omega
theorem open_pkgs (fuel : Nat) (c : Value) (y : DataW H × List MemPlace) (h : DataW.trod enc Tryz.prog W base spare held fuel 36 [c] = some y) (hb : Rows.uptoBulk y.1 ≤ 1048576) : ∃ l, LIn pkgK anyB W l c ∧ wtL wtP l ≤ Rows.uptoBulk y.1 :=
  open_list pkgK wtP 36 29 Tryz.underlying36 c3' (by show 0 < 15; omega) ⟨emp, 0, emp, emp, 0, emp, [], .nil, .nil, [], .nil, .nil, .nil, .nil, []⟩ ⟨.slice none 0 0, .slice none 0 0, .slice none 0 0, .slice none 0 0, .slice none 0 0, .slice none 0 0, .slice none 0 0, .slice none 0 0, .slice none 0 0⟩ fuel (fun p _ cs y h hb => open_pkg p cs y h hb) c y h hb
theorem open_repo (fuel : Nat) (cs : List Value) (y : DataW H × List MemPlace) (h : DataW.trod enc Tryz.prog W base spare held fuel 38 cs = some y) (hb : Rows.uptoBulk y.1 ≤ 1048576) : ∃ p r, cs = repoK.cells p r ∧ repoK.holds anyB W p r ∧ wtO p ≤ Rows.uptoBulk y.1 := by
  obtain ⟨zs, m, rfl, hy, hl, hzl, hg⟩ := DataW.trod_struct Tryz.underlying38 h
  rw [cRo] at hl
  match cs, hl with
  | [k0, k1], _ =>
    match zs, hzl with
    | [z0, z1], _ =>
      have g0 : DataW.trod enc Tryz.prog W base spare held m 3 [k0] = some z0 := by simpa [c3] using hg 0 _ rfl
      have g1 : DataW.trod enc Tryz.prog W base spare held m 36 [k1] = some z1 := by simpa [cPs] using hg 1 _ rfl
      clear hg h
      rw [hy] at hb
      simp only [List.map_cons, List.map_nil, bulk_agg, List.sum_cons, List.sum_nil] at hb
      obtain ⟨pr, e0, a0, aw⟩ := DataW.trod_int Tryz.underlying3 g0
      obtain ⟨l, hl, hw⟩ := open_pkgs _ _ _ g1 (by omega)
      have h4 : -9223372036854775808 ≤ pr ∧ pr ≤ 9223372036854775807 := by
        have h4 := aw
        simp [Lit.wf, IntKind.min, IntKind.max, IntKind.signed, IntKind.bits] at h4
        omega
      simp only [List.cons.injEq, and_true] at e0
      subst e0
      have b2 : Rows.uptoBulk z0.1 = 1 := by rw [a0]; simp [Rows.uptoBulk]
      refine ⟨⟨pr, l⟩, k1, rfl, ⟨h4, hl⟩, ?_⟩
      rw [hy]
      simp only [List.map_cons, List.map_nil, bulk_agg, List.sum_cons, List.sum_nil, wtO]
      omega
theorem open_data (fuel : Nat) (cs : List Value) (y : DataW H × List MemPlace) (h : DataW.trod enc Tryz.prog W base spare held fuel 41 cs = some y) (hb : Rows.uptoBulk y.1 ≤ 1048576) : ∃ d vr vi, cs = [vr, vi] ∧ DataIn anyB W d vr vi ∧ wtA d ≤ Rows.uptoBulk y.1 := by
  obtain ⟨zs, m, rfl, hy, hl, hzl, hg⟩ := DataW.trod_struct Tryz.underlying41 h
  rw [cDat] at hl
  match cs, hl with
  | [k0, k1], _ =>
    match zs, hzl with
    | [z0, z1], _ =>
      have g0 : DataW.trod enc Tryz.prog W base spare held m 39 [k0] = some z0 := by simpa [cRos] using hg 0 _ rfl
      have g1 : DataW.trod enc Tryz.prog W base spare held m 36 [k1] = some z1 := by simpa [cPs] using hg 1 _ rfl
      clear hg h
      rw [hy] at hb
      simp only [List.map_cons, List.map_nil, bulk_agg, List.sum_cons, List.sum_nil] at hb
      obtain ⟨lr, hr, hrw⟩ := open_list repoK wtO 39 38 Tryz.underlying39 cRo (by show 0 < 2; omega) ⟨0, []⟩ (.slice none 0 0) m (fun p _ cs y h hb => open_repo p cs y h hb) k0 z0 g0 (by omega)
      obtain ⟨li, hi, hiw⟩ := open_pkgs _ _ _ g1 (by omega)
      refine ⟨⟨lr, li⟩, k0, k1, rfl, ⟨hr, hi⟩, ?_⟩
      rw [hy]
      simp only [List.map_cons, List.map_nil, bulk_agg, List.sum_cons, List.sum_nil, wtA]
      omega
end
end Go.Proofs.YtdpjjnbelgaagaaGreatDoor

namespace Go.Proofs.YtdpjjnbelgaagaaGreatDoor
open Go.ChangeShapes Go.WideShapes Go.ChangeAt Go.RowKit Go.Deep
set_option maxRecDepth 100000

theorem enc_ok {d : DataD} {b : List UInt8} (h : (b, (0 : Int)) = encodeE d) : checkE d = 0 ∧ (encA d).length ≤ 4194304 ∧ b = encA d := by
  by_cases h0 : checkE d = 0
  · by_cases hl : (encA d).length ≤ 4194304
    · rw [encode_yes h0 hl] at h
      injection h with h1 _
      exact ⟨h0, hl, h1⟩
    · rw [encode_large h0 (by omega)] at h
      injection h with _ h2
      omega
  · rw [encode_bad rfl h0] at h
    injection h with _ h2
    exact absurd h2.symm h0
end Go.Proofs.YtdpjjnbelgaagaaGreatDoor

namespace Go.Proofs.YtdpjjnbelgaagaaGreatDoor
open Go.ChangeShapes Go.WideShapes Go.ChangeAt Go.RowKit Go.Deep
set_option maxRecDepth 100000

end Go.Proofs.YtdpjjnbelgaagaaGreatDoor

namespace Go.Proofs.YtdpjjnbelgaagaaGreatDoor
open Go.ChangeShapes Go.WideShapes Go.ChangeAt Go.RowKit Go.Deep
set_option maxRecDepth 100000

theorem ready_un {md : Region.Mode} {ops : Array Oper} {listed : Array Bool} {i : Nat} (h : i ∈ Region.ready md ops listed) : i < listed.size ∧ listed[i]? = some false := by
  unfold Region.ready at h
  have h2 := (List.mem_filter.1 h).2
  simp only [Bool.and_eq_true, Bool.not_eq_true'] at h2
  have h3 := h2.1
  cases h4 : listed[i]? with
  | none => simp [Array.getD_eq_getD_getElem?, h4] at h3
  | some b =>
    simp [Array.getD_eq_getD_getElem?, h4] at h3
    subst h3
    exact ⟨(Array.getElem?_eq_some_iff.1 h4).1, rfl⟩
theorem ready_after {md : Region.Mode} {ops : Array Oper} {listed : Array Bool} {i : Nat} (h : i ∈ Region.ready md ops listed) : ∃ o, ops[i]? = some o ∧ ∀ e ∈ o.after.toList, Region.binds md e = true → listed.getD e.on false = true := by
  unfold Region.ready at h
  have h2 := (List.mem_filter.1 h).2
  simp only [Bool.and_eq_true] at h2
  have h3 := h2.2
  cases ho : ops[i]? with
  | none => rw [ho] at h3; simp at h3
  | some o =>
    rw [ho] at h3
    simp only [Option.map_some, Option.getD_some] at h3
    refine ⟨o, rfl, fun e he hb => ?_⟩
    rw [Array.all_eq_true_iff_forall_mem] at h3
    have h4 := h3 e (by simpa using he)
    simpa [hb] using h4
theorem count_set {l : List Bool} {i : Nat} (h : l[i]? = some false) : (l.set i true).count false + 1 = l.count false := by
  induction l generalizing i with
  | nil => simp at h
  | cons b l ih =>
    cases i with
    | zero =>
      simp at h
      subst h
      simp
    | succ i =>
      simp only [List.getElem?_cons_succ] at h
      have := ih h
      simp only [List.set_cons_succ, List.count_cons]
      omega
theorem wpAny_inv {P : Program} {md : Region.Mode} {ops : Array Oper} {Q : Exit → Act → World → Prop} (Inv : Array Bool → Act → World → Prop)
    (hstep : ∀ listed a w i, Inv listed a w → i ∈ Region.ready md ops listed → wpOp P ops Q i (fun a' w' => Inv (listed.setIfInBounds i true) a' w') a w)
    (hdone : ∀ listed a w, Inv listed a w → Region.ready md ops listed = [] → Q .normal a w) :
    ∀ (fuel : Nat) (listed : Array Bool) (a : Act) (w : World), listed.toList.count false ≤ fuel → Inv listed a w → wpAny P md ops Q fuel listed a w
  | 0, listed, a, w, hc, h => by
    have hr : Region.ready md ops listed = [] := by
      cases hr : Region.ready md ops listed with
      | nil => rfl
      | cons i l =>
        have h1 := ready_un (show i ∈ Region.ready md ops listed by rw [hr]; exact List.mem_cons_self)
        have h2 : false ∈ listed.toList := by
          have := h1.2
          rw [← Array.getElem?_toList] at this
          exact List.mem_of_getElem? this
        have := List.count_pos_iff.2 h2
        omega
    exact ⟨hr, hdone _ _ _ h hr⟩
  | fuel + 1, listed, a, w, hc, h => by
    refine ⟨fun hr => hdone _ _ _ h hr, fun i hi => ?_⟩
    refine wpOp_mono (fun a' w' h' => wpAny_inv Inv hstep hdone fuel _ a' w' ?_ h') (hstep _ _ _ i h hi)
    have h1 := ready_un hi
    have h2 : listed.toList[i]? = some false := by rw [Array.getElem?_toList]; exact h1.2
    have h3 := count_set h2
    rw [Array.toList_setIfInBounds]
    omega
/-! A frame whose midst, from slot 38 on, is written. -/
abbrev frm (F mid B : List Value) : Act := { tmps := (F ++ mid ++ B).toArray, defers := [] }
theorem frm_eval {F mid B : List Value} {n d : Nat} (hF : F.length = n) (hd : d < mid.length) : (frm F mid B).eval (.tmp (n + d)) = (mid[d]?).getD undef := by
  have h : ¬ n + d < n := by omega
  simp [Act.eval, List.getElem?_append, hF, hd, h]
theorem frm_put {F mid B : List Value} {n d : Nat} (hF : F.length = n) (hd : d < mid.length) (v : Value) : (frm F mid B).put (some (n + d)) v = frm F (mid.set d v) B := by
  simp only [Act.put, frm, Act.mk.injEq, and_true]
  apply Array.toList_inj.1
  simp only [Array.toList_setIfInBounds, List.set_append, hF, List.length_append]
  rw [if_pos (by omega), if_neg (by omega), Nat.add_sub_cancel_left]
theorem frm_front {F mid B : List Value} {t : Nat} (ht : t < F.length) : (frm F mid B).eval (.tmp t) = (F[t]?).getD undef := by
  simp [Act.eval, List.getElem?_append, ht]
theorem ready_all {ops : Array Oper} {listed : Array Bool} (hlow : (ops.toList.zipIdx.all fun x => x.1.after.all fun e => decide (e.on < x.2)) = true) (hsz : listed.size = ops.size) (hr : Region.ready .any ops listed = []) : ∀ i, i < ops.size → listed.getD i false = true := by
  intro i
  induction i using Nat.strongRecOn with
  | _ i ih =>
    intro hi
    have hi2 : i < listed.size := by omega
    cases hb : listed[i] with
    | true => simp [Array.getD_eq_getD_getElem?, hi2, hb]
    | false =>
      exfalso
      have hmem : i ∈ Region.ready .any ops listed := by
        unfold Region.ready
        refine List.mem_filter.2 ⟨List.mem_range.2 hi, ?_⟩
        rw [Bool.and_eq_true]
        refine ⟨by simp [Array.getD_eq_getD_getElem?, hi2, hb], ?_⟩
        rw [Array.getElem?_eq_getElem hi]
        simp only [Option.map_some, Option.getD_some]
        rw [Array.all_eq_true_iff_forall_mem]
        intro e he
        rw [List.all_eq_true] at hlow
        have h1 := hlow (ops[i], i) (by
          refine List.mem_of_getElem? (i := i) ?_
          rw [List.getElem?_zipIdx, Array.getElem?_toList, Array.getElem?_eq_getElem hi]
          simp)
        rw [Array.all_eq_true_iff_forall_mem] at h1
        have h2 : e.on < i := by simpa using h1 e he
        rw [ih e.on h2 (by omega)]
        simp
      rw [hr] at hmem
      cases hmem
/-! ### The region -/
abbrev zC (s : ByteArray) : Array Value := #[.string s, .int .i64 0, .string { data := #[49] }, .string { data := #[50] }, .int .u8 2, .string ⟨#[]⟩, nilV, nilV, nilV, nilV, nilV, nilV, nilV, nilV, nilV]
abbrev pC (p : PkgD) (r : PkgR) : Array Value := #[.string p.name, .int .i64 p.ep, .string p.ver, .string p.rel, .int .u8 p.arch, .string p.vendor, r.prov, r.req, r.con, r.obs, r.reco, r.sup, r.sug, r.enh, r.files]
abbrev oC (gp : Nat) : Array Value := #[.int .i64 200, .slice (some ⟨gp, 0, none⟩) 1 1, .int .i64 0, .slice none 0 0]
abbrev nZ : ByteArray := { data := #[122] }
/-- What the slot of each operation holds. -/
def okR (n0 : World) (p : PkgD) (r : PkgR) (w : World) : Nat → Value → Prop
  | 0, v => v = p.val r
  | 1, v => ∃ gp, v = .slice (some ⟨gp, 0, none⟩) 1 1 ∧ Blk w gp 29 (pC p r)
  | 2, v => ∃ gp, v = .agg #[.int .i64 200, .slice (some ⟨gp, 0, none⟩) 1 1] ∧ Blk w gp 29 (pC p r)
  | 3, v => v = .agg #[.int .i64 0, .slice none 0 0]
  | 4, v => ∃ go gp, v = .slice (some ⟨go, 0, none⟩) 2 2 ∧ Blk w go 38 (oC gp) ∧ Blk w gp 29 (pC p r)
  | 5, v => v = .agg (zC nZ)
  | 6, v => ∃ gz, v = .slice (some ⟨gz, 0, none⟩) 1 1 ∧ Blk w gz 29 (zC nZ)
  | 7, v => ∃ go gp gz, v = .agg #[.slice (some ⟨go, 0, none⟩) 2 2, .slice (some ⟨gz, 0, none⟩) 1 1] ∧ Blk w go 38 (oC gp) ∧ Blk w gp 29 (pC p r) ∧ Blk w gz 29 (zC nZ)
  | 8, v => ∃ gd, v = .pointer (some ⟨gd, 0, none⟩) ∧ Blk w gd 41 #[.slice none 0 0, .slice none 0 0] ∧ n0.heap.size ≤ gd
  | _, _ => True
theorem Blk.bel' {w w' : World} {g : Nat} {t : TypeId} {cs : Array Value} (h : Blk w g t cs) (hb : Below w.heap.size w w') : Blk w' g t cs := h.below hb h.lt
theorem okR.bel {n0 : World} {p : PkgD} {r : PkgR} {w w' : World} (hb : Below w.heap.size w w') : ∀ {i : Nat} {v : Value}, okR n0 p r w i v → okR n0 p r w' i v
  | 0, _, h => h
  | 1, _, ⟨gp, h1, h2⟩ => ⟨gp, h1, h2.bel' hb⟩
  | 2, _, ⟨gp, h1, h2⟩ => ⟨gp, h1, h2.bel' hb⟩
  | 3, _, h => h
  | 4, _, ⟨go, gp, h1, h2, h3⟩ => ⟨go, gp, h1, h2.bel' hb, h3.bel' hb⟩
  | 5, _, h => h
  | 6, _, ⟨gz, h1, h2⟩ => ⟨gz, h1, h2.bel' hb⟩
  | 7, _, ⟨go, gp, gz, h1, h2, h3, h4⟩ => ⟨go, gp, gz, h1, h2.bel' hb, h3.bel' hb, h4.bel' hb⟩
  | 8, _, ⟨gd, h1, h2, h3⟩ => ⟨gd, h1, h2.bel' hb, h3⟩
  | _ + 9, _, _ => trivial
theorem iPkgZ : ∃ i, Tryz.prog.info? 29 = some i ∧ i.zero = some (.agg #[.string ⟨#[]⟩, .int .i64 0, .string ⟨#[]⟩, .string ⟨#[]⟩, .int .u8 0, .string ⟨#[]⟩, nilV, nilV, nilV, nilV, nilV, nilV, nilV, nilV, nilV]) ∧ i.size = 15 ∧ i.bytes = 296 :=
  info_parts (P := Tryz.prog) (e := 29) (z := .agg #[.string ⟨#[]⟩, .int .i64 0, .string ⟨#[]⟩, .string ⟨#[]⟩, .int .u8 0, .string ⟨#[]⟩, nilV, nilV, nilV, nilV, nilV, nilV, nilV, nilV, nilV]) (size := 15) (bytes := 296) (by kernel_rfl)
section
variable {o : Oper} {a : Act} {w : World} {K : Act → World → Prop} {Q : Exit → Act → World → Prop}
theorem doR_build {t : TypeId} {parts : Array (Nat × Operand)} (ho : o.op = .build t parts) (vs : List (Nat × Value)) (hv : parts.toList.map (fun (i, x) => (i, a.eval x)) = vs) (cells : Array Value) (hf : Tryz.prog.built t vs = some cells) (h : K (a.put o.dst (.agg cells)) w) : o.wp Tryz.prog a w K Q := by
  rw [← Array.toList_map] at hv
  refine wp_build t parts ho (by rw [hv, hf]; rfl) ?_
  rw [hv, hf]
  exact h
theorem doR_pkgs (t0 : Nat) (cs : Array Value) (ho : o.op = .buildSlice 36 1 #[(0, .tmp t0)]) (h0 : a.eval (.tmp t0) = .agg cs) (_hcs : cs.size = 15)
    (hf : Instr.fill (fun i => some (i * 15, 15)) ((Array.range (1 * 15)).map ((#[.string ⟨#[]⟩, .int .i64 0, .string ⟨#[]⟩, .string ⟨#[]⟩, .int .u8 0, .string ⟨#[]⟩, nilV, nilV, nilV, nilV, nilV, nilV, nilV, nilV, nilV] : Array Value)[· % 15]!)) [(0, .agg cs)] = some cs)
    (h : K (a.put o.dst (.slice (some ⟨w.heap.size, 0, none⟩) 1 1)) (w.alloc (.cells cs 29))) : o.wp Tryz.prog a w K Q := by
  obtain ⟨i, hi, hz, hs, _⟩ := iPkgZ
  refine wp_buildSlice 36 29 1 _ ho cs i _ Tryz.underlying36 hi hz (by rw [hs]; omega) (by rw [hs]; omega) ?_ h
  rw [hs]
  have hv : (#[(0, Operand.tmp t0)].map fun (i, x) => (i, a.eval x)).toList = [(0, .agg cs)] := by
    rw [Array.toList_map]
    show [(0, a.eval (.tmp t0))] = _
    rw [h0]
  rw [hv]
  exact hf
end
end Go.Proofs.YtdpjjnbelgaagaaGreatDoor

namespace Go.Proofs.YtdpjjnbelgaagaaGreatDoor
open Go.ChangeShapes Go.WideShapes Go.ChangeAt Go.RowKit Go.Deep
set_option maxRecDepth 100000

/-- A list in a block of its own. -/
theorem LIn.blk {α : Type} {K : Kd α} {B : World → Nat → Prop} {w : World} {g : Nat} {t : TypeId} {l : List α} (ps : List (α × K.R)) (hl : ps.map Prod.fst = l) {n : Nat} (hn : ps.length = n) (hn2 : n ≤ 4611686018427387904) {cs : List Value} (hcs : enL K ps = cs) (hb : Blk w g t cs.toArray) (hh : ∀ p ∈ ps, K.holds B w p.1 p.2) (hB : B w g) :
    LIn K B w l (.slice (some ⟨g, 0, none⟩) n n) := by
  subst hl hn hcs
  refine ⟨some ⟨g, 0, none⟩, ps.length, by rw [List.length_map], by rw [List.length_map]; exact hn2, fun j hj => ?_⟩
  have hj' : j < ps.length := by rwa [List.length_map] at hj
  refine ⟨g, 0, ps[j].2, rfl, hB, ⟨hb.lt, fun i hi => ?_⟩, ?_⟩
  · rw [K.len] at hi
    rw [hb.cell, Nat.zero_add, List.getElem_map]
    have := enL_at K ps j hj' i hi
    simpa using this
  · rw [List.getElem_map]
    exact hh ps[j] (List.getElem_mem _)
def badP : PkgD := ⟨{ data := #[97] }, 0, { data := #[49] }, { data := #[50] }, 9, ⟨#[]⟩, [], nilR, nilR, [], nilR, nilR, nilR, nilR, []⟩
def zeroP : PkgD := ⟨⟨#[]⟩, 0, ⟨#[]⟩, ⟨#[]⟩, 0, ⟨#[]⟩, [], nilR, nilR, [], nilR, nilR, nilR, nilR, []⟩
def d1 : DataD := ⟨[], [badP]⟩
def d2 : DataD := ⟨[⟨1025, [badP]⟩], []⟩
def d3 : DataD := ⟨[⟨-1, []⟩], []⟩
def d4 : DataD := ⟨List.replicate 17 ⟨0, []⟩, []⟩
def d5 : DataD := ⟨[⟨0, List.replicate 200 zeroP⟩], List.replicate 57 zeroP⟩
section
variable {X : World} {g g1 g2 g3 : Nat}
theorem LIn.made {α : Type} {K : Kd α} {X : World} {g : Nat} {t : TypeId} {n N : Nat} {x : α} {r : K.R} {z : Array Value} (hz : z = (K.cells x r).toArray) (_hK : 0 < K.size) (hN : N = n * K.size) (hn : n ≤ 4611686018427387904) (h : Blk X g t (madeCells z N)) (hx : K.holds anyB X x r) :
    LIn K anyB X (List.replicate n x) (.slice (some ⟨g, 0, none⟩) n n) := by
  subst hz hN
  refine ⟨some ⟨g, 0, none⟩, n, by rw [List.length_replicate], by rw [List.length_replicate]; exact hn, fun j hj => ?_⟩
  rw [List.length_replicate] at hj
  refine ⟨g, 0, r, rfl, trivial, ⟨h.lt, fun i hi => ?_⟩, ?_⟩
  · rw [K.len] at hi
    rw [List.getElem_replicate]
    have hlt : j * K.size + i < n * K.size := by
      have := Nat.mul_le_mul_right K.size (show j + 1 ≤ n by omega)
      rw [Nat.add_mul] at this
      omega
    have hmod : (j * K.size + i) % K.size = i := by rw [Nat.mul_comm, Nat.mul_add_mod, Nat.mod_eq_of_lt hi]
    have hsz : (K.cells x r).toArray.size = K.size := by rw [List.size_toArray, K.len]
    have hlen : i < (K.cells x r).length := by rw [K.len]; exact hi
    rw [h.cell, Nat.zero_add]
    unfold madeCells
    rw [Array.getElem?_map, Array.getElem?_range, if_pos hlt]
    simp [hsz, hmod, hlen]
  · rw [List.getElem_replicate]
    exact hx
end
end Go.Proofs.YtdpjjnbelgaagaaGreatDoor

namespace Go.Proofs.YtdpjjnbelgaagaaGreatDoor
open Go.ChangeShapes Go.WideShapes Go.ChangeAt Go.RowKit Go.Deep
set_option maxRecDepth 100000

theorem frm_splitN (n : Nat) (L : List Value) : frm (L.take n) (L.drop n) [] = { tmps := L.toArray, defers := [] } := by
  unfold frm
  rw [List.append_nil, List.take_append_drop]
section
variable {o : Oper} {a : Act} {w : World} {K : Act → World → Prop} {Q : Exit → Act → World → Prop}
theorem doS_pick (t u : Nat) (v : Value) (ho : o.op = .pick (.tmp t) (.const (.bool true)) (.tmp u)) (ht : a.eval (.tmp t) = .bool false) (hx : a.eval (.tmp u) = v) (h : K (a.put o.dst v) w) : o.wp Tryz.prog a w K Q := by
  unfold Oper.wp execOp
  simp only [ho, ht, hx]
  go_simp
  exact h
end
theorem guard_no {o : Oper} {y : Nat → Option Bool} (h : o.guard = none) : Region.wanted o y = true := by unfold Region.wanted; rw [h]
end Go.Proofs.YtdpjjnbelgaagaaGreatDoor

namespace Go.Proofs.YtdpjjnbelgaagaaGreatDoor
open Go.ChangeShapes Go.WideShapes Go.ChangeAt Go.RowKit Go.Deep
set_option maxRecDepth 100000

set_option maxHeartbeats 4000000 in
theorem eqS_any (a b : List ByteArray) (va vb : Value) (w : World) (ha : LIn strK anyB w a va) (hb : LIn strK anyB w b vb) : Calls Tryz.prog 100 #[va, vb] w fun e w' => e = .returned (.bool (eqL eqT a b)) ∧ Below w.heap.size w w' := by
  obtain ⟨a1, c1, rfl⟩ := ha.form
  obtain ⟨a2, c2, rfl⟩ := hb.form
  have hn1 := ha.bound
  have hn2 := hb.bound
  have HA := Lib.hid ha
  have HB := Lib.hid hb
  obtain ⟨T, hT⟩ : ∃ T, T = eqL eqT a b := ⟨_, rfl⟩
  rw [← hT]
  have HT := Lib.hid hT
  clear ha hb hT
  by_cases hnn : a.length = b.length
  · have HNN := Lib.hid hnn
    obtain ⟨n, hn⟩ : ∃ n, n = a.length := ⟨_, rfl⟩
    have HLn := Lib.hid (show a.length = n ∧ b.length = n from ⟨hn.symm, by omega⟩)
    rw [← hnn, ← hn]
    rw [← hn] at hn1
    clear hn2 hnn hn
    go_enter Tryz.func100, Tryz.ntmps100
    go_wp2_with fail
    go_loopw [13] (fun i wr => ∃ k : Nat, k ≤ n ∧ i = .int .i64 k ∧ Hid ((∀ j (h1 : j < a.length) (h2 : j < b.length), j < k → eqT a[j] b[j] = true) ∧ Below w.heap.size w wr)) (fun i wr => n - (intOf i).toNat)
    case atStart => exact ⟨0, by omega, rfl, ⟨fun j _ _ h => absurd h (Nat.not_lt_zero j), Below.refl _ _⟩⟩
    case round =>
      obtain ⟨k, hk, rfl, HQ⟩ := hrel
      by_cases hlt : k < n
      · have hki : (k : Int) < (n : Int) := by omega
        obtain ⟨b1, o1, r1, ha1, _, hcs1, hh1⟩ := HA.out.at_ k (by have := HLn.out; omega)
        have hvb : Value.slice a2 n c2 = .slice a2 b.length c2 := by rw [HLn.out.2]
        obtain ⟨b2, o2, r2, ha2, _, hcs2, hh2⟩ := HB.out.at_ k (by have := HLn.out; omega)
        obtain ⟨x, hx⟩ : ∃ x, x = a[k]'(by have := HLn.out; omega) := ⟨_, rfl⟩
        obtain ⟨y, hy⟩ : ∃ y, y = b[k]'(by have := HLn.out; omega) := ⟨_, rfl⟩
        rw [← hx] at hcs1 hh1
        rw [← hy] at hcs2 hh2
        have HXY := Lib.hid (show ∀ (h1 : k < a.length) (h2 : k < b.length), a[k] = x ∧ b[k] = y from fun _ _ => ⟨hx.symm, hy.symm⟩)
        subst ha1 ha2
        have hd1 := hcs1.below HQ.out.2
        have hd2 := hcs2.below HQ.out.2
        dsimp only [strK] at hd1 hd2
        have x0 : wr.cell? ⟨b1, o1 + k, none⟩ = some (.string x) := (by have h := hd1.2 0 (show 0 < 1 by omega); rwa [Nat.mul_one] at h)
        have y0 : wr.cell? ⟨b2, o2 + k, none⟩ = some (.string y) := (by have h := hd2.2 0 (show 0 < 1 by omega); rwa [Nat.mul_one] at h)
        have p1 := hd1.1
        have p2 := hd2.1
        clear hcs1 hcs2 hh1 hh2 hd1 hd2 hx hy hvb
        have HFr := Lib.hid HQ.out.2
        have HLt := Lib.hid hlt
        by_cases hq : x.toList = y.toList
        · have HE := Lib.hid hq
          go_upto_region 6 with fail
          go_quiet (fail)
          go_wp2_with fail
          go_roundw
          case rel => exact ⟨k + 1, by omega, by go_num, ⟨fun j h1 h2 h3 => by
            by_cases hj : j < k
            · exact HQ.out.1 j h1 h2 hj
            · obtain rfl : j = k := by omega
              obtain ⟨e1, e2⟩ := HXY.out h1 h2
              rw [e1, e2]
              exact decide_eq_true (bytes_eq HE.out), bel_drewN HFr.out _⟩⟩
          case measure => simp [intOf]; omega
        · have HN := Lib.hid hq
          have hq2 : (x.toList == y.toList) = false := by simpa using hq
          have HT2 := Lib.hid (show T = false by
            rw [HT.out]
            have h1 : k < a.length := by have := HLn.out; have := HLt.out; omega
            have h2 : k < b.length := by have := HLn.out; have := HLt.out; omega
            obtain ⟨e1, e2⟩ := HXY.out h1 h2
            exact eqL_no h1 h2 (by rw [e1, e2]; exact decide_eq_false fun e => HN.out (by rw [e])))
          go_upto_region 6 with fail
          go_quiet (fail)
          go_wp2_with fail
          go_ret
          exact ⟨ret_bool HT2.out.symm, bel_drewN HFr.out _⟩
      · obtain rfl : k = n := by omega
        have HT2 := Lib.hid (show T = true by rw [HT.out]; exact (eqL_iff _ _ _).2 ⟨HNN.out, fun j h1 h2 => HQ.out.1 j h1 h2 (by have := HLn.out; omega)⟩)
        go_wp2_with fail
        go_ret
        exact ⟨ret_bool HT2.out.symm, HQ.out.2⟩
  · have h1 : ¬ (a.length : Int) = (b.length : Int) := by omega
    have HT2 := Lib.hid (show T = false by rw [HT.out]; exact eqL_len hnn)
    clear hnn
    go_enter Tryz.func100, Tryz.ntmps100
    go_wp2_with fail
    go_ret
    exact ⟨ret_bool HT2.out.symm, Below.refl _ _⟩
set_option maxHeartbeats 4000000 in
theorem eqD_any (a b : List DepD) (va vb : Value) (w : World) (ha : LIn depK anyB w a va) (hb : LIn depK anyB w b vb) : Calls Tryz.prog 99 #[va, vb] w fun e w' => e = .returned (.bool (eqL depSame a b)) ∧ Below w.heap.size w w' := by
  obtain ⟨a1, c1, rfl⟩ := ha.form
  obtain ⟨a2, c2, rfl⟩ := hb.form
  have hn1 := ha.bound
  have hn2 := hb.bound
  have HA := Lib.hid ha
  have HB := Lib.hid hb
  obtain ⟨T, hT⟩ : ∃ T, T = eqL depSame a b := ⟨_, rfl⟩
  rw [← hT]
  have HT := Lib.hid hT
  clear ha hb hT
  by_cases hnn : a.length = b.length
  · have HNN := Lib.hid hnn
    obtain ⟨n, hn⟩ : ∃ n, n = a.length := ⟨_, rfl⟩
    have HLn := Lib.hid (show a.length = n ∧ b.length = n from ⟨hn.symm, by omega⟩)
    rw [← hnn, ← hn]
    rw [← hn] at hn1
    clear hn2 hnn hn
    go_enter Tryz.func99, Tryz.ntmps99
    go_wp2_with fail
    go_loopw [13] (fun i wr => ∃ k : Nat, k ≤ n ∧ i = .int .i64 k ∧ Hid ((∀ j (h1 : j < a.length) (h2 : j < b.length), j < k → depSame a[j] b[j] = true) ∧ Below w.heap.size w wr)) (fun i wr => n - (intOf i).toNat)
    case atStart => exact ⟨0, by omega, rfl, ⟨fun j _ _ h => absurd h (Nat.not_lt_zero j), Below.refl _ _⟩⟩
    case round =>
      obtain ⟨k, hk, rfl, HQ⟩ := hrel
      by_cases hlt : k < n
      · have hki : (k : Int) < (n : Int) := by omega
        obtain ⟨b1, o1, r1, ha1, _, hcs1, hh1⟩ := HA.out.at_ k (by have := HLn.out; omega)
        have hvb : Value.slice a2 n c2 = .slice a2 b.length c2 := by rw [HLn.out.2]
        obtain ⟨b2, o2, r2, ha2, _, hcs2, hh2⟩ := HB.out.at_ k (by have := HLn.out; omega)
        obtain ⟨x, hx⟩ : ∃ x, x = a[k]'(by have := HLn.out; omega) := ⟨_, rfl⟩
        obtain ⟨y, hy⟩ : ∃ y, y = b[k]'(by have := HLn.out; omega) := ⟨_, rfl⟩
        rw [← hx] at hcs1 hh1
        rw [← hy] at hcs2 hh2
        have HXY := Lib.hid (show ∀ (h1 : k < a.length) (h2 : k < b.length), a[k] = x ∧ b[k] = y from fun _ _ => ⟨hx.symm, hy.symm⟩)
        subst ha1 ha2
        have hd1 := hcs1.below HQ.out.2
        have hd2 := hcs2.below HQ.out.2
        dsimp only [depK] at hd1 hd2
        have x0 : wr.cell? ⟨b1, o1 + k * 5, none⟩ = some (.string x.name) := hd1.2 0 (show 0 < 5 by omega)
        have x1 : wr.cell? ⟨b1, o1 + k * 5 + 1, none⟩ = some (.int .u8 x.op) := hd1.2 1 (show 1 < 5 by omega)
        have x2 : wr.cell? ⟨b1, o1 + k * 5 + 2, none⟩ = some (.int .i64 x.ep) := hd1.2 2 (show 2 < 5 by omega)
        have x3 : wr.cell? ⟨b1, o1 + k * 5 + 3, none⟩ = some (.string x.ver) := hd1.2 3 (show 3 < 5 by omega)
        have x4 : wr.cell? ⟨b1, o1 + k * 5 + 4, none⟩ = some (.string x.rel) := hd1.2 4 (show 4 < 5 by omega)
        have y0 : wr.cell? ⟨b2, o2 + k * 5, none⟩ = some (.string y.name) := hd2.2 0 (show 0 < 5 by omega)
        have y1 : wr.cell? ⟨b2, o2 + k * 5 + 1, none⟩ = some (.int .u8 y.op) := hd2.2 1 (show 1 < 5 by omega)
        have y2 : wr.cell? ⟨b2, o2 + k * 5 + 2, none⟩ = some (.int .i64 y.ep) := hd2.2 2 (show 2 < 5 by omega)
        have y3 : wr.cell? ⟨b2, o2 + k * 5 + 3, none⟩ = some (.string y.ver) := hd2.2 3 (show 3 < 5 by omega)
        have y4 : wr.cell? ⟨b2, o2 + k * 5 + 4, none⟩ = some (.string y.rel) := hd2.2 4 (show 4 < 5 by omega)
        have p1 := hd1.1
        have p2 := hd2.1
        clear hcs1 hcs2 hh1 hh2 hd1 hd2 hx hy hvb
        have HFr := Lib.hid HQ.out.2
        have HLt := Lib.hid hlt
        by_cases e0 : x.name.toList = y.name.toList
        · by_cases e1 : x.op = y.op
          · by_cases e2 : x.ep = y.ep
            · by_cases e3 : x.ver.toList = y.ver.toList
              · by_cases e4 : x.rel.toList = y.rel.toList
                · have HE := Lib.hid (show x.name.toList = y.name.toList ∧ x.op = y.op ∧ x.ep = y.ep ∧ x.ver.toList = y.ver.toList ∧ x.rel.toList = y.rel.toList from ⟨e0, e1, e2, e3, e4⟩)
                  go_upto_region 6 with fail
                  go_region
                  go_wp2_with fail
                  go_roundw
                  case rel => exact ⟨k + 1, by omega, by go_num, ⟨fun j h1 h2 h3 => by
                    by_cases hj : j < k
                    · exact HQ.out.1 j h1 h2 hj
                    · obtain rfl : j = k := by omega
                      obtain ⟨e1, e2⟩ := HXY.out h1 h2
                      rw [e1, e2]
                      exact dep_all HE.out.1 HE.out.2.1 HE.out.2.2.1 HE.out.2.2.2.1 HE.out.2.2.2.2, by (first | exact HFr.out | exact HFr.out.drew | exact bel_drewN HFr.out _)⟩⟩
                  case measure => simp [intOf]; omega
                · have HN := Lib.hid e4
                  have HT2 := Lib.hid (show T = false by
                    rw [HT.out]
                    have h1 : k < a.length := by have := HLn.out; have := HLt.out; omega
                    have h2 : k < b.length := by have := HLn.out; have := HLt.out; omega
                    obtain ⟨e1, e2⟩ := HXY.out h1 h2
                    exact eqL_no h1 h2 (by rw [e1, e2]; exact dep_rel HN.out))
                  go_upto_region 6 with fail
                  go_region
                  go_wp2_with fail
                  go_ret
                  exact ⟨ret_bool HT2.out.symm, by (first | exact HFr.out | exact HFr.out.drew | exact bel_drewN HFr.out _)⟩
              · have HN := Lib.hid e3
                have HT2 := Lib.hid (show T = false by
                  rw [HT.out]
                  have h1 : k < a.length := by have := HLn.out; have := HLt.out; omega
                  have h2 : k < b.length := by have := HLn.out; have := HLt.out; omega
                  obtain ⟨e1, e2⟩ := HXY.out h1 h2
                  exact eqL_no h1 h2 (by rw [e1, e2]; exact dep_ver HN.out))
                go_upto_region 6 with fail
                go_region
                go_wp2_with fail
                go_ret
                exact ⟨ret_bool HT2.out.symm, by (first | exact HFr.out | exact HFr.out.drew | exact bel_drewN HFr.out _)⟩
            · have HN := Lib.hid e2
              have HT2 := Lib.hid (show T = false by
                rw [HT.out]
                have h1 : k < a.length := by have := HLn.out; have := HLt.out; omega
                have h2 : k < b.length := by have := HLn.out; have := HLt.out; omega
                obtain ⟨e1, e2⟩ := HXY.out h1 h2
                exact eqL_no h1 h2 (by rw [e1, e2]; exact dep_ep HN.out))
              go_upto_region 6 with fail
              go_region
              go_wp2_with fail
              go_ret
              exact ⟨ret_bool HT2.out.symm, by (first | exact HFr.out | exact HFr.out.drew | exact bel_drewN HFr.out _)⟩
          · have HN := Lib.hid e1
            have HT2 := Lib.hid (show T = false by
              rw [HT.out]
              have h1 : k < a.length := by have := HLn.out; have := HLt.out; omega
              have h2 : k < b.length := by have := HLn.out; have := HLt.out; omega
              obtain ⟨e1, e2⟩ := HXY.out h1 h2
              exact eqL_no h1 h2 (by rw [e1, e2]; exact dep_op HN.out))
            go_upto_region 6 with fail
            go_region
            go_wp2_with fail
            go_ret
            exact ⟨ret_bool HT2.out.symm, by (first | exact HFr.out | exact HFr.out.drew | exact bel_drewN HFr.out _)⟩
        · have HN := Lib.hid e0
          have HT2 := Lib.hid (show T = false by
            rw [HT.out]
            have h1 : k < a.length := by have := HLn.out; have := HLt.out; omega
            have h2 : k < b.length := by have := HLn.out; have := HLt.out; omega
            obtain ⟨e1, e2⟩ := HXY.out h1 h2
            exact eqL_no h1 h2 (by rw [e1, e2]; exact dep_name HN.out))
          go_upto_region 6 with fail
          go_region
          go_wp2_with fail
          go_ret
          exact ⟨ret_bool HT2.out.symm, by (first | exact HFr.out | exact HFr.out.drew | exact bel_drewN HFr.out _)⟩
      · obtain rfl : k = n := by omega
        have HT2 := Lib.hid (show T = true by rw [HT.out]; exact (eqL_iff _ _ _).2 ⟨HNN.out, fun j h1 h2 => HQ.out.1 j h1 h2 (by have := HLn.out; omega)⟩)
        go_wp2_with fail
        go_ret
        exact ⟨ret_bool HT2.out.symm, HQ.out.2⟩
  · have h1 : ¬ (a.length : Int) = (b.length : Int) := by omega
    have HT2 := Lib.hid (show T = false by rw [HT.out]; exact eqL_len hnn)
    clear hnn
    go_enter Tryz.func99, Tryz.ntmps99
    go_wp2_with fail
    go_ret
    exact ⟨ret_bool HT2.out.symm, Below.refl _ _⟩
end Go.Proofs.YtdpjjnbelgaagaaGreatDoor

namespace Go.Proofs.YtdpjjnbelgaagaaGreatDoor
open Go.ChangeShapes Go.WideShapes Go.ChangeAt Go.RowKit Go.Deep
set_option maxRecDepth 100000

theorem allN_true {p : Nat → Bool} : ∀ n : Nat, allN p n = true ↔ ∀ j, j < n → p j = true
  | 0 => ⟨fun _ j h => absurd h (Nat.not_lt_zero j), fun _ => rfl⟩
  | n + 1 => by
    show (allN p n && p n) = true ↔ _
    rw [Bool.and_eq_true, allN_true n]
    exact ⟨fun ⟨h1, h2⟩ j hj => by
      by_cases e : j = n
      · rw [e]; exact h2
      · exact h1 j (by omega), fun h => ⟨fun j hj => h j (by omega), h n (by omega)⟩⟩
theorem args_eqL (k k2 : Int) (l m : List RichD) : argsE (ofL k l) (ofL k2 m) = eqL sameE l m := by
  rw [Bool.eq_iff_iff, eqL_iff]
  unfold argsE
  rw [Bool.and_eq_true, decide_eq_true_eq, allN_true]
  show l.length = m.length ∧ (∀ j, j < l.length → sameE (l.getD j .nil) (m.getD j .nil) = true) ↔ _
  constructor
  · rintro ⟨h1, h2⟩
    refine ⟨h1, fun j k1 k2 => ?_⟩
    have := h2 j k1
    rwa [List.getD_eq_getElem?_getD, List.getD_eq_getElem?_getD, List.getElem?_eq_getElem k1, List.getElem?_eq_getElem k2] at this
  · rintro ⟨h1, h2⟩
    refine ⟨h1, fun j hj => ?_⟩
    have := h2 j hj (by omega)
    rwa [List.getD_eq_getElem?_getD, List.getD_eq_getElem?_getD, List.getElem?_eq_getElem hj, List.getElem?_eq_getElem (by omega)]
theorem riches_is {w : World} {l : List RichD} {v : Value} (h : LIn richK anyB w l v) : IsArgs w (ofL 0 l) v := by
  have h2 : LIn richK anyB w (argL (ofL 0 l)) v := by rw [argL_ofL]; exact h
  exact ArgsP.is (h2.args ⟨noDep_fit, by show (0 : Int) ≤ 0; decide, by show (0 : Int) < 256; decide⟩)
set_option maxHeartbeats 4000000 in
theorem kSame1_any (l m : List RichD) (vl vm : Value) (w : World) (hl : LIn richK anyB w l vl) (hm : LIn richK anyB w m vm) : Calls Tryz.prog 96 #[vl, vm] w fun e w' => e = .returned (.bool (eqL sameE l m)) ∧ Below w.heap.size w w' := by
  obtain ⟨a, c, rfl⟩ := hl.form
  obtain ⟨a2, c2, rfl⟩ := hm.form
  have h1 := riches_is hl
  have h2 := riches_is hm
  have HC := Lib.hid (show Calls Tryz.prog 97 #[.slice a l.length c, .slice a2 m.length c2, .func (.func 98) #[] #[]] w fun e w' => e = .returned (.bool (eqL sameE l m)) ∧ Below w.heap.size w w' from by
    have h := eqf_any w (ofL 0 l) (ofL 0 m) a a2 c c2 h1 h2 w (Below.refl _ _) fun j hj S S2 w' k1 k2 k3 => same_any w _ S _ S2 w' k1 k2 k3
    rw [args_eqL] at h
    exact h)
  clear hl hm h1 h2
  go_enter Tryz.func96, Tryz.ntmps96
  go_wp2_with (first
    | (go_at_call 97; (with_reducible refine HC.out.mono ?_); rintro e w1 ⟨rfl, hb⟩; have HB := Lib.hid hb; clear hb)
    | fail)
  go_ret
  exact ⟨rfl, HB.out⟩
end Go.Proofs.YtdpjjnbelgaagaaGreatDoor

namespace Go.Proofs.YtdpjjnbelgaagaaGreatDoor
open Go.ChangeShapes Go.WideShapes Go.ChangeAt Go.RowKit Go.Deep
set_option maxRecDepth 100000

section
variable {α : Type} {K : Kd α} {B : World → Nat → Prop} {w : World} {l : List α} {v : Value}
/-- A slice is read as the cells of its elements. -/
theorem LIn.src (h : LIn K B w l v) {tx t : TypeId} (hk : Tryz.prog.underlying tx = some (.slice t)) (dr : K.R) : ∃ ps : List (α × K.R), ps.map Prod.fst = l ∧ (∀ w', Below w.heap.size w w' → Src Tryz.prog K.size tx v l.length (enL K ps) w') ∧ ∀ p ∈ ps, K.holds B w p.1 p.2 := by
  obtain ⟨a, c, rfl, hn, hel⟩ := h
  have hall : ∀ j : Nat, ∃ r : K.R, ∀ hj : j < l.length, ∃ b o, a = some ⟨b, o, none⟩ ∧ CellsAt w b (o + j * K.size) (K.cells l[j] r) ∧ K.holds B w l[j] r := fun j => by
    by_cases hj : j < l.length
    · obtain ⟨b, o, r, h1, _, h3, h4⟩ := hel j hj
      exact ⟨r, fun _ => ⟨b, o, h1, h3, h4⟩⟩
    · exact ⟨dr, fun h => absurd h hj⟩
  obtain ⟨R, hR⟩ := Classical.axiomOfChoice hall
  let ps : List (α × K.R) := (List.range l.length).attach.map fun j => (l[j.1]'(by simpa using j.2), R j.1)
  have hlen : ps.length = l.length := by simp [ps]
  have hat : ∀ j (hj : j < l.length), ps[j]'(by omega) = (l[j], R j) := fun j hj => by simp [ps]
  have hfst : ps.map Prod.fst = l := by
    apply List.ext_getElem
    · simp [hlen]
    · intro j h1 h2
      rw [List.getElem_map, hat j h2]
  have hhold : ∀ p ∈ ps, K.holds B w p.1 p.2 := fun p hp => by
    obtain ⟨j, hj, rfl⟩ := List.getElem_of_mem hp
    rw [hat j (by omega)]
    obtain ⟨_, _, _, _, h5⟩ := hR j (by omega)
    exact h5
  have hone : ∀ u ∈ enL K ps, u.oneCell' = true := fun u hu => by
    obtain ⟨p, hp, hu⟩ := List.mem_flatMap.1 hu
    exact K.one (hhold p hp) u hu
  refine ⟨ps, hfst, fun w' hbw => ?_, hhold⟩
  have hel2 : (enL K ps).length = l.length * K.size := by rw [enL_len, hlen]
  cases a with
  | none =>
    have h0 : l.length = 0 := by
      rcases Nat.eq_zero_or_pos l.length with h | h
      · exact h
      · obtain ⟨_, _, e, _⟩ := hR 0 h
        cases e
    have : enL K ps = [] := List.eq_nil_of_length_eq_zero (by rw [hel2, h0, Nat.zero_mul])
    rw [this, h0]
    exact Src.ofNil w' hk c
  | some ad =>
    refine Src.ofSlice w' hk ad l.length c (enL K ps) hel2 (fun i u hu => ?_) hone
    have hi : i < l.length * K.size := by
      rw [← hel2]
      exact (List.getElem?_eq_some_iff.1 hu).1
    have hK : 0 < K.size := by
      rcases Nat.eq_zero_or_pos K.size with h | h
      · rw [h, Nat.mul_zero] at hi; omega
      · exact h
    have hj : i / K.size < l.length := Nat.div_lt_of_lt_mul (by rw [Nat.mul_comm]; exact hi)
    have hm := Nat.mod_lt i hK
    have hdm := Nat.div_add_mod i K.size
    obtain ⟨b, o, e1, e2, _⟩ := hR (i / K.size) hj
    injection e1 with e1
    subst e1
    have h6 := enL_at K ps (i / K.size) (by omega) (i % K.size) hm
    rw [hat _ hj] at h6
    have h7 := (e2.below hbw).2 (i % K.size) (by rw [K.len]; exact hm)
    have h8 : i / K.size * K.size + i % K.size = i := by rw [Nat.mul_comm]; exact hdm
    rw [h8] at h6
    rw [Nat.add_assoc, h8] at h7
    rw [← hu, h6, ← h7, add_plain]
end
/-- What Clone returns: what its elements lead to lies where it lay at first. -/
def ClonePostB {α : Type} (K : Kd α) (t : TypeId) (W0 w : World) (l : List α) (e : Ending) (w' : World) : Prop :=
  ∃ (v' : Value) (ps : List (α × K.R)), e = .returned v' ∧ ps.map Prod.fst = l ∧ (∀ p ∈ ps, K.holds anyB W0 p.1 p.2) ∧ Own w' t K.size v' l.length (enL K ps) ∧ (∀ k, v'.ownBlock = some k → w.heap.size ≤ k) ∧ Below w.heap.size w w'
/-- What Clone returns. -/
def ClonePost {α : Type} (K : Kd α) (t : TypeId) (w : World) (l : List α) (e : Ending) (w' : World) : Prop :=
  ∃ (v' : Value) (ps : List (α × K.R)), e = .returned v' ∧ ps.map Prod.fst = l ∧ (∀ p ∈ ps, K.holds anyB w p.1 p.2) ∧ Own w' t K.size v' l.length (enL K ps) ∧ (∀ k, v'.ownBlock = some k → w.heap.size ≤ k) ∧ Below w.heap.size w w'
set_option maxHeartbeats 4000000 in
theorem cloneD_any (l : List DepD) (v : Value) (w : World) (h : LIn depK anyB w l v) (hn : l.length ≤ 1048576) : Calls Tryz.prog 149 #[v] w (ClonePost depK 32 w l) := by
  obtain ⟨i, hi, hz0, hz1, hz2⟩ := info_parts (P := Tryz.prog) (e := 32) (z := .agg #[.string ⟨#[]⟩, .int .u8 0, .int .i64 0, .string ⟨#[]⟩, .string ⟨#[]⟩]) (size := 5) (bytes := 64) (by kernel_rfl)
  obtain ⟨ps, hfst, hsrc, hhold⟩ := h.src (tx := 25) (t := 32) Tryz.underlying25 ()
  have hlin := h
  obtain ⟨a, c, rfl, hb, hel⟩ := h
  cases a with
  | none =>
    have h0 : l.length = 0 := by
      rcases Nat.eq_zero_or_pos l.length with h | h
      · exact h
      · obtain ⟨_, _, _, e, _⟩ := hel 0 h
        cases e
    obtain rfl : l = [] := List.eq_nil_of_length_eq_zero h0
    have hbo : ∀ (c : Nat) W, Sem.run Tryz.prog (binOp BinOp.eql 25 (Value.slice none 0 c) (Value.slice none 0 0)) W = .ok (.bool true) W := fun c W => by kernel_rfl
    clear hsrc hhold hlin hel hfst
    go_enter Tryz.func149, Tryz.ntmps149
    go_wp2_with fail
    go_ret
    exact ⟨_, [], rfl, rfl, (fun p hp => by cases hp), Own.nil _ _ _, (fun k hk => by simp [Value.ownBlock] at hk), Below.refl _ _⟩
  | some ad =>
    have hE : Own (w.alloc (.cells #[] 32)) 32 5 (.slice (some ⟨w.heap.size, 0, none⟩) 0 0) 0 [] := Own.made w 32 5 #[] 0 rfl (by decide)
    obtain ⟨ps3, hfst3, hS3, hhold3⟩ : ∃ ps3 : List (DepD × (depK).R), ps3.map Prod.fst = l ∧ Src Tryz.prog 5 25 (.slice (some ad) l.length c) l.length (enL depK ps3) (w.alloc (.cells #[] 32)) ∧ ∀ p ∈ ps3, (depK).holds anyB w p.1 p.2 := ⟨ps, hfst, hsrc _ (new_b w (.cells #[] 32)), hhold⟩
    have HR := Lib.hid (show ps3.map Prod.fst = l ∧ ∀ p ∈ ps3, (depK).holds anyB w p.1 p.2 from ⟨hfst3, hhold3⟩)
    have hbo : ∀ (n : Nat) W, Sem.run Tryz.prog (binOp BinOp.eql 25 (Value.slice (some ad) n c) (Value.slice none 0 0)) W = .ok (.bool false) W := fun n W => by kernel_rfl
    clear hsrc hhold hlin hel hfst hfst3 hhold3 hb
    go_enter Tryz.func149, Tryz.ntmps149
    go_wp2_with (at_builtin; go_loud (refine wpList_append_S _ rfl (.tmp 5) (.tmp 6) _ _ rfl 32 i _ 5 64 Tryz.underlying25 hi hz0 hz1 hz2 rfl (by omega) (.slice (some ⟨w.heap.size, 0, none⟩) 0 0) 0 [] rfl hE (by simp) _ l.length _ rfl hS3 (by simp only [maxLen]; omega) (by omega) ?_); intro ao2 cap2 w1 hn1 hm1 hown1 hg1 hat1 hlt1)
    go_ret
    have hbw : Below w.heap.size w w1 := ((Below.refl w.heap.size w).alloc (Nat.le_refl _) _).trans ⟨hg1.os, hg1.tape, hg1.output, Nat.le_trans (by simp) hg1.size, fun k hk => hg1.block k (by simp; omega) (by simp [Value.ownBlock]; omega)⟩
    refine ⟨.slice ao2 l.length cap2, ps3, by simp, HR.out.1, HR.out.2, (by simpa using hown1 : Own w1 32 5 (.slice ao2 l.length cap2) l.length (enL depK ps3)), fun k hk => ?_, hbw⟩
    rcases hat1 with h | h
    · rw [Nat.zero_add] at h
      rw [h] at hk
      simp [Value.ownBlock] at hk
      omega
    · rw [Nat.zero_add] at h
      rw [h] at hk
      injection hk with hk
      simp at hk
      omega
set_option maxHeartbeats 4000000 in
theorem cloneS_any (l : List ByteArray) (v : Value) (w : World) (h : LIn strK anyB w l v) (hn : l.length ≤ 1048576) : Calls Tryz.prog 150 #[v] w (ClonePost strK 9 w l) := by
  obtain ⟨i, hi, hz0, hz1, hz2⟩ := info_parts (P := Tryz.prog) (e := 9) (z := .string ⟨#[]⟩) (size := 1) (bytes := 16) (by kernel_rfl)
  obtain ⟨ps, hfst, hsrc, hhold⟩ := h.src (tx := 27) (t := 9) Tryz.underlying27 ()
  have hlin := h
  obtain ⟨a, c, rfl, hb, hel⟩ := h
  cases a with
  | none =>
    have h0 : l.length = 0 := by
      rcases Nat.eq_zero_or_pos l.length with h | h
      · exact h
      · obtain ⟨_, _, _, e, _⟩ := hel 0 h
        cases e
    obtain rfl : l = [] := List.eq_nil_of_length_eq_zero h0
    have hbo : ∀ (c : Nat) W, Sem.run Tryz.prog (binOp BinOp.eql 27 (Value.slice none 0 c) (Value.slice none 0 0)) W = .ok (.bool true) W := fun c W => by kernel_rfl
    clear hsrc hhold hlin hel hfst
    go_enter Tryz.func150, Tryz.ntmps150
    go_wp2_with fail
    go_ret
    exact ⟨_, [], rfl, rfl, (fun p hp => by cases hp), Own.nil _ _ _, (fun k hk => by simp [Value.ownBlock] at hk), Below.refl _ _⟩
  | some ad =>
    have hE : Own (w.alloc (.cells #[] 9)) 9 1 (.slice (some ⟨w.heap.size, 0, none⟩) 0 0) 0 [] := Own.made w 9 1 #[] 0 rfl (by decide)
    obtain ⟨ps3, hfst3, hS3, hhold3⟩ : ∃ ps3 : List (ByteArray × (strK).R), ps3.map Prod.fst = l ∧ Src Tryz.prog 1 27 (.slice (some ad) l.length c) l.length (enL strK ps3) (w.alloc (.cells #[] 9)) ∧ ∀ p ∈ ps3, (strK).holds anyB w p.1 p.2 := ⟨ps, hfst, hsrc _ (new_b w (.cells #[] 9)), hhold⟩
    have HR := Lib.hid (show ps3.map Prod.fst = l ∧ ∀ p ∈ ps3, (strK).holds anyB w p.1 p.2 from ⟨hfst3, hhold3⟩)
    have hbo : ∀ (n : Nat) W, Sem.run Tryz.prog (binOp BinOp.eql 27 (Value.slice (some ad) n c) (Value.slice none 0 0)) W = .ok (.bool false) W := fun n W => by kernel_rfl
    clear hsrc hhold hlin hel hfst hfst3 hhold3 hb
    go_enter Tryz.func150, Tryz.ntmps150
    go_wp2_with (at_builtin; go_loud (refine wpList_append_S _ rfl (.tmp 5) (.tmp 6) _ _ rfl 9 i _ 1 16 Tryz.underlying27 hi hz0 hz1 hz2 rfl (by omega) (.slice (some ⟨w.heap.size, 0, none⟩) 0 0) 0 [] rfl hE (by simp) _ l.length _ rfl hS3 (by simp only [maxLen]; omega) (by omega) ?_); intro ao2 cap2 w1 hn1 hm1 hown1 hg1 hat1 hlt1)
    go_ret
    have hbw : Below w.heap.size w w1 := ((Below.refl w.heap.size w).alloc (Nat.le_refl _) _).trans ⟨hg1.os, hg1.tape, hg1.output, Nat.le_trans (by simp) hg1.size, fun k hk => hg1.block k (by simp; omega) (by simp [Value.ownBlock]; omega)⟩
    refine ⟨.slice ao2 l.length cap2, ps3, by simp, HR.out.1, HR.out.2, (by simpa using hown1 : Own w1 9 1 (.slice ao2 l.length cap2) l.length (enL strK ps3)), fun k hk => ?_, hbw⟩
    rcases hat1 with h | h
    · rw [Nat.zero_add] at h
      rw [h] at hk
      simp [Value.ownBlock] at hk
      omega
    · rw [Nat.zero_add] at h
      rw [h] at hk
      injection hk with hk
      simp at hk
      omega
set_option maxHeartbeats 4000000 in
theorem cloneR_any (W0 : World) (l : List RichD) (v : Value) (w : World) (h : LIn richK anyB W0 l v) (hB : Below W0.heap.size W0 w) (hn : l.length ≤ 1048576) : Calls Tryz.prog 151 #[v] w (ClonePostB richK 34 W0 w l) := by
  obtain ⟨i, hi, hz0, hz1, hz2⟩ := info_parts (P := Tryz.prog) (e := 34) (z := .agg #[.int .u8 0, .string ⟨#[]⟩, .int .u8 0, .int .i64 0, .string ⟨#[]⟩, .string ⟨#[]⟩, .slice none 0 0]) (size := 7) (bytes := 96) (by kernel_rfl)
  obtain ⟨ps, hfst, hsrc, hhold⟩ := h.src (tx := 26) (t := 34) Tryz.underlying26 (.slice none 0 0)
  have hlin := h
  obtain ⟨a, c, rfl, hb, hel⟩ := h
  cases a with
  | none =>
    have h0 : l.length = 0 := by
      rcases Nat.eq_zero_or_pos l.length with h | h
      · exact h
      · obtain ⟨_, _, _, e, _⟩ := hel 0 h
        cases e
    obtain rfl : l = [] := List.eq_nil_of_length_eq_zero h0
    have hbo : ∀ (c : Nat) W, Sem.run Tryz.prog (binOp BinOp.eql 26 (Value.slice none 0 c) (Value.slice none 0 0)) W = .ok (.bool true) W := fun c W => by kernel_rfl
    clear hsrc hhold hlin hel hfst
    go_enter Tryz.func151, Tryz.ntmps151
    go_wp2_with fail
    go_ret
    exact ⟨_, [], rfl, rfl, (fun p hp => by cases hp), Own.nil _ _ _, (fun k hk => by simp [Value.ownBlock] at hk), Below.refl _ _⟩
  | some ad =>
    have hE : Own (w.alloc (.cells #[] 34)) 34 7 (.slice (some ⟨w.heap.size, 0, none⟩) 0 0) 0 [] := Own.made w 34 7 #[] 0 rfl (by decide)
    obtain ⟨ps3, hfst3, hS3, hhold3⟩ : ∃ ps3 : List (RichD × (richK).R), ps3.map Prod.fst = l ∧ Src Tryz.prog 7 26 (.slice (some ad) l.length c) l.length (enL richK ps3) (w.alloc (.cells #[] 34)) ∧ ∀ p ∈ ps3, (richK).holds anyB W0 p.1 p.2 := ⟨ps, hfst, hsrc _ (below_t' hB (new_b w (.cells #[] 34))), hhold⟩
    have HR := Lib.hid (show ps3.map Prod.fst = l ∧ ∀ p ∈ ps3, (richK).holds anyB W0 p.1 p.2 from ⟨hfst3, hhold3⟩)
    have hbo : ∀ (n : Nat) W, Sem.run Tryz.prog (binOp BinOp.eql 26 (Value.slice (some ad) n c) (Value.slice none 0 0)) W = .ok (.bool false) W := fun n W => by kernel_rfl
    clear hsrc hhold hlin hel hfst hfst3 hhold3 hb
    go_enter Tryz.func151, Tryz.ntmps151
    go_wp2_with (at_builtin; go_loud (refine wpList_append_S _ rfl (.tmp 5) (.tmp 6) _ _ rfl 34 i _ 7 96 Tryz.underlying26 hi hz0 hz1 hz2 rfl (by omega) (.slice (some ⟨w.heap.size, 0, none⟩) 0 0) 0 [] rfl hE (by simp) _ l.length _ rfl hS3 (by simp only [maxLen]; omega) (by omega) ?_); intro ao2 cap2 w1 hn1 hm1 hown1 hg1 hat1 hlt1)
    go_ret
    have hbw : Below w.heap.size w w1 := ((Below.refl w.heap.size w).alloc (Nat.le_refl _) _).trans ⟨hg1.os, hg1.tape, hg1.output, Nat.le_trans (by simp) hg1.size, fun k hk => hg1.block k (by simp; omega) (by simp [Value.ownBlock]; omega)⟩
    refine ⟨.slice ao2 l.length cap2, ps3, by simp, HR.out.1, HR.out.2, (by simpa using hown1 : Own w1 34 7 (.slice ao2 l.length cap2) l.length (enL richK ps3)), fun k hk => ?_, hbw⟩
    rcases hat1 with h | h
    · rw [Nat.zero_add] at h
      rw [h] at hk
      simp [Value.ownBlock] at hk
      omega
    · rw [Nat.zero_add] at h
      rw [h] at hk
      injection hk with hk
      simp at hk
      omega
end Go.Proofs.YtdpjjnbelgaagaaGreatDoor

namespace Go.Proofs.YtdpjjnbelgaagaaGreatDoor
open Go.ChangeShapes Go.WideShapes Go.ChangeAt Go.RowKit Go.Deep
set_option maxRecDepth 100000

/-- A list's first k elements are gathered in new memory. -/
structure CL {α : Type} (K : Kd α) (t : TypeId) (w : World) (l : List α) (k : Nat) (v : Value) (W : World) : Prop where
  ac : Acc K t w.heap.size W (l.take k) v
  bl : Below w.heap.size w W
section
variable {α : Type} {K : Kd α} {t : TypeId} {w W W' : World} {l : List α} {k : Nat} {v v' : Value}
theorem CL.start (K : Kd α) (t : TypeId) (w : World) (l : List α) : CL K t w l 0 (.slice none 0 0) w := ⟨Acc.nil _ _ _ _, Below.refl _ _⟩
theorem CL.below (h : CL K t w l k v W) (hb : Below W.heap.size W W') : CL K t w l k v W' := ⟨h.ac.below hb, below_t' h.bl hb⟩
theorem CL.ownB (h : CL K t w l k v W) (b : Nat) (hb : v.ownBlock = some b) : w.heap.size ≤ b ∧ b < W.heap.size := by
  obtain ⟨ps, h1, h2, h3, h4⟩ := h.ac.ex
  exact ⟨h3 b hb, h2.lt b hb⟩
theorem CL.push {r : K.R} {xs : List Value} {m0 : Nat} (h : CL K t w l k v W) (hk : k < l.length) (hown : Own W t K.size v k xs) (hm : w.heap.size ≤ m0) (hv : ∀ b, v.ownBlock = some b → b < m0) (hx : K.holds (free m0) W l[k] r)
    (hO : Own W' t K.size v' (k + 1) (xs ++ K.cells l[k] r)) (hg : W.grownBy W' v.ownBlock) (hat : v'.ownBlock = v.ownBlock ∨ v'.ownBlock = some W.heap.size) : CL K t w l (k + 1) v' W' := by
  have hll : (l.take k).length = k := by rw [List.length_take]; omega
  refine ⟨?_, h.bl.trans ⟨hg.os, hg.tape, hg.output, Nat.le_trans h.bl.size hg.size |> fun _ => hg.size, fun b hb => hg.block b (Nat.lt_of_lt_of_le hb h.bl.size) fun e => ?_⟩⟩
  · rw [List.take_succ_eq_append_getElem hk]
    exact Acc.push (by rw [hll]; exact hown) h.ac hm hx hv h.bl.size (by rw [hll]; exact hO) hg hat
  · have := (h.ownB b e.symm).1
    omega
theorem CL.done (h : CL K t w l l.length v W) (hl : l.length ≤ 4611686018427387904) (hK : 0 < K.size) : LIn K (free w.heap.size) W l v := by
  have h2 := h.ac
  rw [List.take_length] at h2
  exact h2.done hl hK
end
theorem new_rich {n0 : Nat} {w : World} {r : RichD} {s : Value} (h : NewArgs n0 w r s) : richK.holds (free n0) w r s := ArgsIn.p h.in_
/-- What a copy of a list returns. -/
def CopyPost {α : Type} (K : Kd α) (w : World) (l : List α) (e : Ending) (w' : World) : Prop := ∃ v', e = .returned v' ∧ LIn K (free w.heap.size) w' l v' ∧ Below w.heap.size w w'
set_option maxHeartbeats 8000000 in
theorem rcopied_any (l : List RichD) (v : Value) (w : World) (h : LIn richK anyB w l v) (hc : ∀ x ∈ l, x.count ≤ 1048576) (hn : l.length ≤ 1048576) : Calls Tryz.prog 87 #[v] w (CopyPost richK w l) := by
  obtain ⟨a, c, rfl⟩ := h.form
  have HL := Lib.hid h
  have HCt := Lib.hid hc
  obtain ⟨iR, hiR, hz0, hz1, hz2⟩ := iRich
  clear h hc
  go_enter Tryz.func87, Tryz.ntmps87
  go_wp2_with fail
  go_loopw [3, 4] (fun v i wr => ∃ k : Nat, k ≤ l.length ∧ i = .int .i64 k ∧ Hid (CL richK 34 w l k v wr)) (fun _ i _ => l.length - (intOf i).toNat)
  case atStart => exact ⟨0, by omega, rfl, CL.start _ _ _ _⟩
  case round =>
    obtain ⟨k, hk, rfl, HQ⟩ := hrel
    by_cases hlt : k < l.length
    · have hki : (k : Int) < (l.length : Int) := by omega
      obtain ⟨b, o, r, ha, _, hcs0, hh0⟩ := HL.out.at_ k hlt
      obtain ⟨x, hx⟩ : ∃ x, x = l[k]'hlt := ⟨_, rfl⟩
      rw [← hx] at hcs0 hh0
      subst ha
      dsimp only [richK] at hcs0 r
      have hi1 : IsArgs w x r := ArgsP.is hh0
      obtain ⟨xa, xc, rfl⟩ := hi1.form
      have hd := hcs0.below HQ.out.bl
      have hcx : x.count ≤ 1048576 := HCt.out x (hx ▸ List.getElem_mem hlt)
      have HX := Lib.hid hx
      have HM := Lib.hid (rcopy_any w x _ wr hi1 HQ.out.bl hcx)
      have x0 : wr.cell? ⟨b, o + k * 7, none⟩ = some (.int .u8 x.kind) := hd.2 0 (show 0 < 7 by omega)
      have x1 : wr.cell? ⟨b, o + k * 7 + 1, none⟩ = some (.string x.dep.name) := hd.2 1 (show 1 < 7 by omega)
      have x2 : wr.cell? ⟨b, o + k * 7 + 2, none⟩ = some (.int .u8 x.dep.op) := hd.2 2 (show 2 < 7 by omega)
      have x3 : wr.cell? ⟨b, o + k * 7 + 3, none⟩ = some (.int .i64 x.dep.ep) := hd.2 3 (show 3 < 7 by omega)
      have x4 : wr.cell? ⟨b, o + k * 7 + 4, none⟩ = some (.string x.dep.ver) := hd.2 4 (show 4 < 7 by omega)
      have x5 : wr.cell? ⟨b, o + k * 7 + 5, none⟩ = some (.string x.dep.rel) := hd.2 5 (show 5 < 7 by omega)
      have x6 : wr.cell? ⟨b, o + k * 7 + 6, none⟩ = some (.slice xa x.n xc) := hd.2 6 (show 6 < 7 by omega)
      have xl : b < wr.heap.size := hd.1
      obtain ⟨xs, hown, hone⟩ := HQ.out.ac.own
      obtain ⟨ao, cp, hve⟩ := own_at hown
      have hll : (l.take k).length = k := by rw [List.length_take]; omega
      subst hve
      rw [hll] at hown HQ
      have HO4 := Lib.hid hown
      have HN4 := Lib.hid hone
      have HLL := Lib.hid hll
      have HLt := Lib.hid hlt
      clear hcs0 hh0 hi1 hd hx hown hone hll
      go_wp2_with (first
        | (go_at_call 139; (with_reducible refine HM.out.mono ?_); rintro e w2 ⟨s', rfl, hn2, hb2⟩; obtain ⟨sa, sc, rfl⟩ := hn2.form; have HB2 := Lib.hid hb2; have HX2 := Lib.hid (new_rich hn2); have HS2 := Lib.hid (HQ.out.below hb2); clear hn2 hb2)
        | (at_builtin; (refine wpList_append_S _ rfl (.tmp 11) (.tmp 17) _ _ rfl 34 iR _ 7 96 Tryz.underlying26 hiR hz0 hz1 hz2 rfl (by omega) (.slice ao k cp) k xs rfl ((HO4.out.keep fun b hb => HB2.out.block b (HO4.out.lt b hb)).alloc _) HN4.out (.slice (some ⟨w2.heap.size, 0, none⟩) 1 1) 1 (richK.cells x (Value.slice sa x.n sc)) rfl (src_rich w2 x (.slice sa x.n sc) rfl) (by simp only [maxLen]; omega) (by omega) ?_); rintro ao' cap' w7 hn1 hn2 hO7 hg7 hat7 hlt7; have HZ7 := Lib.hid (And.intro hO7 (And.intro hg7 hat7)); clear hn1 hn2 hO7 hg7 hat7 hlt7)
        | fail)
      have HS7 := Lib.hid (show CL richK 34 w l (k + 1) (.slice ao' (k + 1) cap') w7 from (HS2.out.below (new_b w2 (.cells #[.int .u8 x.kind, .string x.dep.name, .int .u8 x.dep.op, .int .i64 x.dep.ep, .string x.dep.ver, .string x.dep.rel, .slice sa x.n sc] 34))).push HLt.out (r := .slice sa x.n sc) ((HO4.out.keep fun b hb => HB2.out.block b (HO4.out.lt b hb)).alloc _) HQ.out.bl.size (fun q hq => (HQ.out.ownB q hq).2) (by rw [← HX.out]; exact take0 HX2.out (new_b _ _)) (by rw [← HX.out]; exact HZ7.out.1) HZ7.out.2.1 HZ7.out.2.2)
      go_roundw
      case rel => exact ⟨k + 1, by have := HLt.out; omega, by go_num, HS7.out⟩
      case measure => simp [intOf]; omega
    · obtain rfl : k = l.length := by omega
      have HD := Lib.hid (HQ.out.done (by omega) (by show 0 < 7; omega))
      go_wp2_with fail
      go_ret
      exact ⟨_, rfl, HD.out, HQ.out.bl⟩
end Go.Proofs.YtdpjjnbelgaagaaGreatDoor

namespace Go.Proofs.YtdpjjnbelgaagaaGreatDoor
open Go.ChangeShapes Go.WideShapes Go.ChangeAt Go.RowKit Go.Deep
set_option maxRecDepth 100000

def LInv (ok : World → Nat → Value → Prop) (Fin : List Value → World → Prop) (K M : Nat) (n0 : World) (F : List Value) (listed : Array Bool) (a : Act) (w : World) : Prop :=
  ∃ mid, a = frm F mid [] ∧ mid.length = M ∧ listed.size = K + 1 ∧ (listed.getD K false = false → Below n0.heap.size n0 w ∧ ∀ i, i < K → listed.getD i false = true → ok w i ((mid[i]?).getD undef)) ∧ (listed.getD K false = true → (∀ i, i < K → listed.getD i false = true) ∧ Fin mid w)
theorem spec_last {ok : World → Nat → Value → Prop} (Fin : List Value → World → Prop) (hmono : ∀ {w w' : World} {i : Nat} {v : Value}, Below w.heap.size w w' → ok w i v → ok w' i v) {n K M : Nat} {L : List Value} {n0 : World} {ops : Array Oper} {Q : Exit → Act → World → Prop} {id : Nat}
    (hL : L.length = n + M) (hKM : K ≤ M) (hsz : ops.size = K + 1) (deps : List (List Nat))
    (hdst : (ops.toList.map (·.dst)) = ((List.range K).map fun i => some (n + i)) ++ [none])
    (hdeps : ((ops.toList.zip deps).all fun x => x.2.all fun d => x.1.after.any fun e => e.on == d && Region.binds .any e) = true) (hdl : deps.length = K + 1) (hdK : deps[K]? = some (List.range K))
    (hlow : (ops.toList.zipIdx.all fun x => x.1.after.all fun e => decide (e.on < x.2)) = true)
    (hstep : ∀ i o mid w, i < K → ops[i]? = some o → mid.length = M → Below n0.heap.size n0 w → (∀ ds, deps[i]? = some ds → ∀ j ∈ ds, ok w j ((frm (L.take n) mid []).eval (.tmp (n + j)))) →
      Region.wanted o (yielded ops (frm (L.take n) mid []).tmps) = true ∧ ∀ Kc : Act → World → Prop, (∀ v w', ok w' i v → Below w.heap.size w w' → Kc ((frm (L.take n) mid []).put o.dst v) w') → o.wp Tryz.prog (frm (L.take n) mid []) w Kc Q)
    (hlast : ∀ o mid w, ops[K]? = some o → mid.length = M → Below n0.heap.size n0 w → (∀ i, i < K → ok w i ((frm (L.take n) mid []).eval (.tmp (n + i)))) →
      Region.wanted o (yielded ops (frm (L.take n) mid []).tmps) = true ∧ ∀ Kc : Act → World → Prop, (∀ w', Fin mid w' → Kc (frm (L.take n) mid []) w') → o.wp Tryz.prog (frm (L.take n) mid []) w Kc Q)
    (hK : ∀ mid W, mid.length = M → Fin mid W → Q .normal (frm (L.take n) mid []) W) :
    (Code.region id ops true).wp Tryz.prog Q { tmps := L.toArray, defers := [] } n0 := by
  rw [← frm_splitN n L]
  have hF : (L.take n).length = n := by rw [List.length_take]; omega
  have hm : (L.drop n).length = M := by rw [List.length_drop]; omega
  refine wp_region_any (by kernel_rfl) (wpAny_inv (LInv ok Fin K M n0 (L.take n)) (fun listed a w i hinv hi => ?_) (fun listed a w h hr => ?_) ops.size _ _ _ (by simp) ?_)
  · obtain ⟨mid, rfl, hm, hl, hs0, hfin⟩ := hinv
    obtain ⟨hi1, hun⟩ := ready_un hi
    obtain ⟨o, ho, haft⟩ := ready_after hi
    have hoL : ops.toList[i]? = some o := by rw [Array.getElem?_toList]; exact ho
    have hiF : listed.getD i false = false := by rw [Array.getD_eq_getD_getElem?, hun]; rfl
    have hdep : ∀ ds, deps[i]? = some ds → ∀ x ∈ ds, listed.getD x false = true := fun ds hds x hx => by
      have h5 := List.all_eq_true.1 hdeps (o, ds) (List.mem_of_getElem? (i := i) (by rw [List.getElem?_zip_eq_some]; exact ⟨hoL, hds⟩))
      have h6 := List.all_eq_true.1 h5 x hx
      rw [Array.any_eq_true] at h6
      obtain ⟨j, hj, h7⟩ := h6
      simp only [Bool.and_eq_true, beq_iff_eq] at h7
      rw [← h7.1]
      exact haft _ (by simp) h7.2
    have hKF : listed.getD K false = false := by
      cases hc : listed.getD K false with
      | false => rfl
      | true =>
        by_cases e : i = K
        · rw [e] at hiF; rw [hiF] at hc; cases hc
        · have := (hfin hc).1 i (by omega)
          rw [hiF] at this
          cases this
    obtain ⟨hb, hs⟩ := hs0 hKF
    unfold wpOp
    rw [ho]
    by_cases hiK : i < K
    · have hd : o.dst = some (n + i) := by
        have h4 := congrArg (fun l => l[i]?) hdst
        rw [List.getElem?_append_left (by simpa using hiK)] at h4
        simp only [List.getElem?_map, hoL, Option.map_some, List.getElem?_range hiK] at h4
        exact Option.some.inj h4
      have hbd : ∀ x, listed.getD x false = true → x < K := fun x hx => by
        by_cases e : x = K
        · rw [e, hKF] at hx; cases hx
        · by_cases hx2 : x < listed.size
          · omega
          · rw [Array.getD_eq_getD_getElem?, Array.getElem?_eq_none (by omega)] at hx
            cases hx
      obtain ⟨h1, h2⟩ := hstep i o mid w hiK ho hm hb fun ds hds j hj => by
        have k2 := hdep ds hds j hj
        rw [frm_eval hF (by have := hbd j k2; omega)]
        exact hs j (hbd j k2) k2
      simp only [h1, if_true]
      refine Or.inl (h2 _ fun v w' hv hw => ?_)
      rw [hd]
      refine ⟨mid.set i v, frm_put hF (by omega) v, by rw [List.length_set]; exact hm, by simpa using hl, fun _ => ⟨below_t' hb hw, fun j hj hlj => ?_⟩, fun h => ?_⟩
      · by_cases hji : j = i
        · subst hji
          rw [List.getElem?_set_self (by omega)]
          exact hv
        · rw [List.getElem?_set_ne (fun e => hji e.symm)]
          refine hmono hw (hs j hj ?_)
          simpa [Array.getD_eq_getD_getElem?, Array.getElem?_setIfInBounds_ne (fun e => hji e.symm : i ≠ j)] using hlj
      · exfalso
        have h10 : (listed.setIfInBounds i true).getD K false = listed.getD K false := by
          simp [Array.getD_eq_getD_getElem?, Array.getElem?_setIfInBounds_ne (by omega : i ≠ K)]
        rw [h10, hKF] at h
        cases h
    · obtain rfl : i = K := by omega
      have hall : ∀ j, j < i → listed.getD j false = true := fun j hj => hdep _ hdK j (List.mem_range.2 hj)
      have hd : o.dst = none := by
        have h4 := congrArg (fun l => l[i]?) hdst
        rw [List.getElem?_append_right (by simp)] at h4
        simp only [List.getElem?_map, hoL, Option.map_some, List.length_map, List.length_range, Nat.sub_self, List.getElem?_cons_zero] at h4
        exact Option.some.inj h4
      obtain ⟨h1, h2⟩ := hlast o mid w ho hm hb fun j hj => by
        rw [frm_eval hF (by omega)]
        exact hs j hj (hall j hj)
      simp only [h1, if_true]
      refine Or.inl (h2 _ fun w' hf => ⟨mid, rfl, hm, by simpa using hl, fun h => ?_, fun _ => ⟨fun j hj => ?_, hf⟩⟩)
      · exfalso
        simp [Array.getD_eq_getD_getElem?, Array.getElem?_setIfInBounds_self, hl] at h
      · simpa [Array.getD_eq_getD_getElem?, Array.getElem?_setIfInBounds_ne (by omega : i ≠ j)] using hall j hj
  · obtain ⟨mid, rfl, h1, h2, _, h4⟩ := h
    have hall := ready_all hlow (by omega) hr
    exact hK mid w h1 (h4 (hall K (by omega))).2
  · have hrep : ∀ j, (Array.replicate ops.size false).getD j false = false := fun j => by
      rw [Array.getD_eq_getD_getElem?, Array.getElem?_replicate]
      split <;> rfl
    refine ⟨_, rfl, hm, by simp [hsz], fun _ => ⟨(Below.refl _ n0).drew, fun j _ hj => ?_⟩, fun h => ?_⟩
    · rw [hrep] at hj; cases hj
    · rw [hrep] at h; cases h
end Go.Proofs.YtdpjjnbelgaagaaGreatDoor

namespace Go.Proofs.YtdpjjnbelgaagaaGreatDoor
open Go.ChangeShapes Go.WideShapes Go.ChangeAt Go.RowKit Go.Deep
set_option maxRecDepth 100000

/-- Whether operation i waits for operation j. -/
def reach (deps : List (List Nat)) : Nat → Nat → Nat → Bool
  | 0, _, _ => false
  | f + 1, i, j => (deps.getD i []).any fun d => d == j || reach deps f d j
theorem reach_listed {deps : List (List Nat)} {P : Nat → Prop} (h : ∀ i, P i → ∀ d ∈ deps.getD i [], P d) : ∀ (f i j : Nat), (∀ d ∈ deps.getD i [], P d) → reach deps f i j = true → P j
  | 0, _, _, _, h2 => by cases h2
  | f + 1, i, j, h1, h2 => by
    unfold reach at h2
    rw [List.any_eq_true] at h2
    obtain ⟨d, hd, h3⟩ := h2
    rw [Bool.or_eq_true, beq_iff_eq] at h3
    rcases h3 with rfl | h3
    · exact h1 d hd
    · exact reach_listed h f d j (h d (h1 d hd)) h3
/-- Operations one after the other. -/
def TailWp (Q : Exit → Act → World → Prop) : List Oper → Act → World → Prop
  | [], a, w => Q .normal a w
  | o :: os, a, w => o.guard = none ∧ o.wp Tryz.prog a w (fun a w => TailWp Q os a w) Q
structure TInv (ok : World → Nat → Value → Prop) (Q : Exit → Act → World → Prop) (ops : Array Oper) (deps : List (List Nat)) (K M N : Nat) (n0 : World) (F B : List Value) (listed : Array Bool) (a : Act) (w : World) : Prop where
  sz : listed.size = N
  cl : ∀ i, listed.getD i false = true → ∀ d ∈ deps.getD i [], listed.getD d false = true
  st : (∃ mid, a = frm F mid B ∧ mid.length = M ∧ Below n0.heap.size n0 w ∧ (∀ i, K ≤ i → listed.getD i false = false) ∧ ∀ i, i < K → listed.getD i false = true → ok w i ((mid[i]?).getD undef)) ∨
    ∃ m, K < m ∧ m ≤ N ∧ (∀ i, i < m → listed.getD i false = true) ∧ (∀ i, m ≤ i → listed.getD i false = false) ∧ TailWp Q (ops.toList.drop m) a w
theorem frm_split3 (n M : Nat) (L : List Value) : frm (L.take n) ((L.drop n).take M) (L.drop (n + M)) = { tmps := L.toArray, defers := [] } := by
  unfold frm
  rw [← List.drop_drop, List.append_assoc, List.take_append_drop, List.take_append_drop]
theorem spec_tail {ok : World → Nat → Value → Prop} (hmono : ∀ {w w' : World} {i : Nat} {v : Value}, Below w.heap.size w w' → ok w i v → ok w' i v) {n K M N : Nat} {L : List Value} {n0 : World} {ops : Array Oper} {Q : Exit → Act → World → Prop} {id : Nat}
    (hL : n + M ≤ L.length) (hKM : K ≤ M) (hsz : ops.size = N) (hKN : K < N) (deps : List (List Nat))
    (hdst : ((ops.toList.take K).map (·.dst)) = (List.range K).map fun i => some (n + i))
    (hdeps : ((ops.toList.zip deps).all fun x => x.2.all fun d => x.1.after.any fun e => e.on == d && Region.binds .any e) = true) (hdl : deps.length = N)
    (hreach : ((List.range N).all fun i => decide (i < K) || (List.range i).all fun j => reach deps N i j) = true)
    (hlow : (ops.toList.zipIdx.all fun x => x.1.after.all fun e => decide (e.on < x.2)) = true)
    (hstep : ∀ i o mid w, i < K → ops[i]? = some o → mid.length = M → Below n0.heap.size n0 w → (∀ ds, deps[i]? = some ds → ∀ j ∈ ds, ok w j ((frm (L.take n) mid (L.drop (n + M))).eval (.tmp (n + j)))) →
      Region.wanted o (yielded ops (frm (L.take n) mid (L.drop (n + M))).tmps) = true ∧ ∀ Kc : Act → World → Prop, (∀ v w', ok w' i v → Below w.heap.size w w' → Kc ((frm (L.take n) mid (L.drop (n + M))).put o.dst v) w') → o.wp Tryz.prog (frm (L.take n) mid (L.drop (n + M))) w Kc Q)
    (hK : ∀ mid w, mid.length = M → Below n0.heap.size n0 w → (∀ i, i < K → ok w i ((frm (L.take n) mid (L.drop (n + M))).eval (.tmp (n + i)))) → TailWp Q (ops.toList.drop K) (frm (L.take n) mid (L.drop (n + M))) w) :
    (Code.region id ops true).wp Tryz.prog Q { tmps := L.toArray, defers := [] } n0 := by
  rw [← frm_split3 n M L]
  have hF : (L.take n).length = n := by rw [List.length_take]; omega
  have hm : ((L.drop n).take M).length = M := by rw [List.length_take, List.length_drop]; omega
  have hre : ∀ i, i < N → K ≤ i → ∀ j, j < i → reach deps N i j = true := fun i h1 h2 j h3 => by
    have h4 := List.all_eq_true.1 hreach i (List.mem_range.2 h1)
    rw [Bool.or_eq_true] at h4
    rcases h4 with h4 | h4
    · have := of_decide_eq_true h4
      omega
    · exact List.all_eq_true.1 h4 j (List.mem_range.2 h3)
  refine wp_region_any (by kernel_rfl) (wpAny_inv (TInv ok Q ops deps K M N n0 (L.take n) (L.drop (n + M))) (fun listed a w i hinv hi => ?_) (fun listed a w h hr => ?_) ops.size _ _ _ (by simp) ?_)
  · obtain ⟨hl, hcl, hst⟩ := hinv
    obtain ⟨hi1, hun⟩ := ready_un hi
    obtain ⟨o, ho, haft⟩ := ready_after hi
    have hoL : ops.toList[i]? = some o := by rw [Array.getElem?_toList]; exact ho
    have hiF : listed.getD i false = false := by rw [Array.getD_eq_getD_getElem?, hun]; rfl
    have hiN : i < N := by omega
    have hdep : ∀ d ∈ deps.getD i [], listed.getD d false = true := fun x hx => by
      have hds : deps[i]? = some (deps.getD i []) := by rw [List.getD_eq_getElem?_getD, List.getElem?_eq_getElem (by omega)]; rfl
      have h5 := List.all_eq_true.1 hdeps (o, deps.getD i []) (List.mem_of_getElem? (i := i) (by rw [List.getElem?_zip_eq_some]; exact ⟨hoL, hds⟩))
      have h6 := List.all_eq_true.1 h5 x hx
      rw [Array.any_eq_true] at h6
      obtain ⟨j, hj, h7⟩ := h6
      simp only [Bool.and_eq_true, beq_iff_eq] at h7
      rw [← h7.1]
      exact haft _ (by simp) h7.2
    have hset : ∀ j, j ≠ i → (listed.setIfInBounds i true).getD j false = listed.getD j false := fun j hj => by
      simp [Array.getD_eq_getD_getElem?, Array.getElem?_setIfInBounds_ne (fun e => hj e.symm : i ≠ j)]
    have hself : (listed.setIfInBounds i true).getD i false = true := by
      simp [Array.getD_eq_getD_getElem?, Array.getElem?_setIfInBounds_self, hl, hiN]
    have hcl' : ∀ j, (listed.setIfInBounds i true).getD j false = true → ∀ d ∈ deps.getD j [], (listed.setIfInBounds i true).getD d false = true := fun j hj d hd => by
      have h1 : listed.getD d false = true := by
        by_cases hji : j = i
        · subst hji
          exact hdep d hd
        · exact hcl j (by rw [← hset j hji]; exact hj) d hd
      by_cases hdi : d = i
      · subst hdi
        exact hself
      · rw [hset d hdi]
        exact h1
    have hbefore : K ≤ i → ∀ j, j < i → listed.getD j false = true := fun hKi j hj => reach_listed (P := fun j => listed.getD j false = true) hcl N i j hdep (hre i hiN hKi j hj)
    have htail : TailWp Q (ops.toList.drop i) a w → o.guard = none ∧ o.wp Tryz.prog a w (fun a w => TailWp Q (ops.toList.drop (i + 1)) a w) Q := fun h => by
      have hlt : i < ops.toList.length := by rw [Array.length_toList]; omega
      rw [List.drop_eq_getElem_cons hlt] at h
      have e : ops.toList[i] = o := by
        rw [List.getElem?_eq_getElem hlt] at hoL
        exact Option.some.inj hoL
      rw [e] at h
      exact h
    have hrun : o.guard = none → o.wp Tryz.prog a w (fun a w => TailWp Q (ops.toList.drop (i + 1)) a w) Q → K ≤ i → (∀ j, i ≤ j → listed.getD j false = false) → Region.wanted o (yielded ops a.tmps) = true ∧ o.wp Tryz.prog a w (fun a w => TInv ok Q ops deps K M N n0 (L.take n) (L.drop (n + M)) (listed.setIfInBounds i true) a w) Q := fun hg hT hKi hrest => by
      refine ⟨guard_no hg, Oper.wp_mono (fun a' w' h' => ⟨by simpa using hl, hcl', Or.inr ⟨i + 1, by omega, by omega, fun j hj => ?_, fun j hj => ?_, h'⟩⟩) hT⟩
      · by_cases hji : j = i
        · subst hji
          exact hself
        · rw [hset j hji]
          exact hbefore hKi j (by omega)
      · rw [hset j (by omega)]
        exact hrest j (by omega)
    unfold wpOp
    rw [ho]
    rcases hst with ⟨mid, rfl, hm, hb, hrest, hs⟩ | ⟨m, hm1, hm2, hlo, hhi, hT⟩
    · by_cases hiK : i < K
      · have hd : o.dst = some (n + i) := by
          have h4 := congrArg (fun l => l[i]?) hdst
          simp only [List.getElem?_map, List.getElem?_take_of_lt hiK, hoL, Option.map_some, List.getElem?_range hiK] at h4
          exact Option.some.inj h4
        obtain ⟨h1, h2⟩ := hstep i o mid w hiK ho hm hb fun ds hds j hj => by
          have k2 := hdep j (by rw [List.getD_eq_getElem?_getD, hds]; exact hj)
          have k3 : j < K := Nat.lt_of_not_le fun hh => by rw [hrest j hh] at k2; cases k2
          rw [frm_eval hF (by omega)]
          exact hs j k3 k2
        simp only [h1, if_true]
        refine Or.inl (h2 _ fun v w' hv hw => ⟨by simpa using hl, hcl', Or.inl ⟨mid.set i v, ?_, by rw [List.length_set]; exact hm, below_t' hb hw, fun j hj => ?_, fun j hj hlj => ?_⟩⟩)
        · rw [hd]
          exact frm_put hF (by omega) v
        · rw [hset j (by omega)]
          exact hrest j hj
        · by_cases hji : j = i
          · subst hji
            rw [List.getElem?_set_self (by omega)]
            exact hv
          · rw [List.getElem?_set_ne (fun e => hji e.symm)]
            exact hmono hw (hs j hj (by rw [← hset j hji]; exact hlj))
      · obtain rfl : i = K := by
          apply Nat.le_antisymm _ (Nat.le_of_not_lt hiK)
          apply Nat.le_of_not_lt
          intro hh
          have := hbefore (by omega) K hh
          rw [hrest K (Nat.le_refl _)] at this
          cases this
        obtain ⟨hg, hT⟩ := htail (hK mid w hm hb fun j hj => by
          rw [frm_eval hF (by omega)]
          exact hs j hj (hbefore (Nat.le_refl _) j hj))
        obtain ⟨h1, h2⟩ := hrun hg hT (Nat.le_refl _) hrest
        simp only [h1, if_true]
        exact Or.inl h2
    · obtain rfl : i = m := by
        apply Nat.le_antisymm
        · apply Nat.le_of_not_lt
          intro hh
          have := hbefore (by omega) m hh
          rw [hhi m (Nat.le_refl _)] at this
          cases this
        · apply Nat.le_of_not_lt
          intro hh
          rw [hlo i hh] at hiF
          cases hiF
      obtain ⟨hg, hT⟩ := htail hT
      obtain ⟨h1, h2⟩ := hrun hg hT (by omega) hhi
      simp only [h1, if_true]
      exact Or.inl h2
  · obtain ⟨hl, hcl, hst⟩ := h
    have hall := ready_all hlow (by omega) hr
    rcases hst with ⟨mid, rfl, hm, hb, hrest, hs⟩ | ⟨m, hm1, hm2, hlo, hhi, hT⟩
    · have := hall K (by omega)
      rw [hrest K (Nat.le_refl _)] at this
      cases this
    · obtain rfl : m = N := by
        apply Nat.le_antisymm hm2
        apply Nat.le_of_not_lt
        intro hh
        have := hall m (by omega)
        rw [hhi m (Nat.le_refl _)] at this
        cases this
      rw [List.drop_eq_nil_of_le (by rw [Array.length_toList]; omega)] at hT
      exact hT
  · have hrep : ∀ j, (Array.replicate ops.size false).getD j false = false := fun j => by
      rw [Array.getD_eq_getD_getElem?, Array.getElem?_replicate]
      split <;> rfl
    refine ⟨by simp [hsz], fun i hi => ?_, Or.inl ⟨_, rfl, hm, (Below.refl _ n0).drew, fun j _ => hrep j, fun j _ hj => ?_⟩⟩
    · rw [hrep] at hi; cases hi
    · rw [hrep] at hj; cases hj
end Go.Proofs.YtdpjjnbelgaagaaGreatDoor

namespace Go.Proofs.YtdpjjnbelgaagaaGreatDoor
open Go.ChangeShapes Go.WideShapes Go.ChangeAt Go.RowKit Go.Deep
set_option maxRecDepth 100000

theorem run_append_Z {P : Program} {w : World} (t tx ty e : TypeId) (i : TypeInfo) (z : Value) (size bytes : Nat) (ht : P.underlying t = some (.slice e)) (hi : P.info? e = some i) (hz : i.zero = some z)
    (hsize : i.size = size) (hby : i.bytes = bytes) (hzs : z.cells.size = size) (hsz : 0 < size) (g : Nat) (hb : Blk w g e #[])
    (x : Value) (m : Nat) (news : List Value) (hs : Src P size tx x m news w) (h63 : m ≤ maxLen) (hbytes : m * bytes ≤ 140737488355328) :
    ∃ v' w', (Builtin.append_ #[t, tx] ty #[.slice (some ⟨g, 0, none⟩) 0 0, x]).run P w = .ok v' w' ∧ Own w' e size v' m news ∧ Below w.heap.size w w' ∧ (∀ k, v'.ownBlock = some k → k = g ∨ w.heap.size ≤ k) := by
  have hown : Own w e size (.slice (some ⟨g, 0, none⟩) 0 0) 0 [] := by
    have hcur : Own w e size (.slice (some ⟨g, 0, none⟩) 0 0) 0 [] := ⟨by simp, .inr ⟨g, 0, 0, #[], rfl, hb, Nat.le_refl _, by decide, by simp, fun j hj => absurd hj (Nat.not_lt_zero j)⟩⟩
    exact hcur
  obtain ⟨v', w', h1, h2, h3, h4, h5⟩ := run_append_O (P := P) (w := w) t tx ty e i z size bytes ht hi hz hsize hby hzs hsz _ 0 [] hown (fun u hu => by cases hu) x m news hs (by omega) (by rw [Nat.zero_add]; exact hbytes)
  rw [Nat.zero_add, List.nil_append] at h2
  by_cases hm : m = 0
  · subst hm
    have hn : news = [] := List.eq_nil_of_length_eq_zero (by simpa using hs.newsLen)
    subst hn
    have hr := run_append_room_src (P := P) w t tx ty e i ht hi g 0 0 0 x 0 [] (by rw [hsize]; exact hs) (Nat.le_refl _) (fun j hj => by simp at hj) (fun j _ => hb.frozen _)
    rw [h1] at hr
    injection hr with e1 e2
    subst e1
    have e3 : w' = w := e2
    subst e3
    exact ⟨_, _, h1, h2, Below.refl _ _, fun k hk => .inl (by simp [Value.ownBlock] at hk; exact hk.symm)⟩
  · have hold : (Builtin.firstCells i.size 0 (.slice (some ⟨g, 0, none⟩) 0 0)).run P w.drew = .ok ([] : List Value).toArray w.drew :=
      hsize ▸ (Own.src (P := P) (tx := t) (w := w.drew) hown.drew ht (fun u hu => by cases hu)).cells
    have hr := run_append_grow_src (P := P) w t tx ty e i z ht hi hz (some ⟨g, 0, none⟩) 0 0 [] hold x m news (hsize ▸ hs) (by omega) (by simp only [maxLen] at h63; omega) (growslice_fits (by omega) (by rw [hby, Nat.zero_add]; exact hbytes))
    rw [h1] at hr
    injection hr with e1 e2
    subst e1 e2
    refine ⟨_, _, h1, h2, (Below.refl _ w).drew.alloc (Nat.le_refl _) _, fun k hk => .inr ?_⟩
    simp only [Value.ownBlock, Option.some.injEq] at hk
    omega
theorem wp_append_Z {P : Program} {w : World} {o : Oper} {a : Act} {K : Act → World → Prop} {Q : Exit → Act → World → Prop} (s sx : Operand) (t tx : TypeId)
    (ho : o.op = .call { callee := .builtin .append, args := #[s, sx], argTypes := #[t, tx] })
    (e : TypeId) (i : TypeInfo) (z : Value) (size bytes : Nat) (ht : P.underlying t = some (.slice e)) (hi : P.info? e = some i) (hz : i.zero = some z)
    (hsize : i.size = size) (hby : i.bytes = bytes) (hzs : z.cells.size = size) (hsz : 0 < size) (g : Nat) (hv : a.eval s = .slice (some ⟨g, 0, none⟩) 0 0) (hb : Blk w g e #[])
    (x : Value) (m : Nat) (news : List Value) (hx : a.eval sx = x) (hs : Src P size tx x m news w) (h63 : m ≤ maxLen) (hbytes : m * bytes ≤ 140737488355328)
    (h : ∀ v' w', Own w' e size v' m news → Below w.heap.size w w' → (∀ k, v'.ownBlock = some k → k = g ∨ w.heap.size ≤ k) → K (a.put o.dst v') w') : o.wp P a w K Q := by
  obtain ⟨v', w', hrun, h2, h3, h4⟩ := run_append_Z (P := P) (w := w) t tx o.type e i z size bytes ht hi hz hsize hby hzs hsz g hb x m news hs h63 hbytes
  unfold Oper.wp execOp
  simp only [ho, resolve, invoke, builtin, Sem.run_bind, Sem.run_pure, Result.andThen_ok, List.map_toArray, List.map_cons, List.map_nil, hv, hx, hrun]
  exact h v' w' h2 h3 h4
end Go.Proofs.YtdpjjnbelgaagaaGreatDoor

namespace Go.Proofs.YtdpjjnbelgaagaaGreatDoor
open Go.ChangeShapes Go.WideShapes Go.ChangeAt Go.RowKit Go.Deep
set_option maxRecDepth 100000

theorem LIn.bel {α : Type} {K : Kd α} {N : Nat} {w w' : World} {l : List α} {v : Value} (h : LIn K (free N) w l v) (hb : Below w.heap.size w w') : LIn K (free N) w' l v :=
  h.keep hb.size fun b ⟨k1, k2⟩ hlt => ⟨hb.block b hlt, k1, fun i => (World.frozen?_of_block (w := w) (hb.block b hlt)).trans (k2 i)⟩
theorem PkgIn.belN {N : Nat} {w w' : World} {p : PkgD} {r : PkgR} (h : PkgIn (free N) w p r) (hb : Below w.heap.size w w') : PkgIn (free N) w' p r :=
  h.keep hb.size fun b ⟨k1, k2⟩ hlt => ⟨hb.block b hlt, k1, fun i => (World.frozen?_of_block (w := w) (hb.block b hlt)).trans (k2 i)⟩
/-- A package's lists are short, and few. -/
structure PkgD.small (p : PkgD) : Prop where
  prov : p.prov.length ≤ 1048576
  req : (argL p.req).length ≤ 1048576
  creq : ∀ x ∈ argL p.req, x.count ≤ 1048576
  con : (argL p.con).length ≤ 1048576
  ccon : ∀ x ∈ argL p.con, x.count ≤ 1048576
  obs : p.obs.length ≤ 1048576
  reco : (argL p.reco).length ≤ 1048576
  creco : ∀ x ∈ argL p.reco, x.count ≤ 1048576
  sup : (argL p.sup).length ≤ 1048576
  csup : ∀ x ∈ argL p.sup, x.count ≤ 1048576
  sug : (argL p.sug).length ≤ 1048576
  csug : ∀ x ∈ argL p.sug, x.count ≤ 1048576
  enh : (argL p.enh).length ≤ 1048576
  cenh : ∀ x ∈ argL p.enh, x.count ≤ 1048576
  files : p.files.length ≤ 1048576
structure PkgR.forms (r : PkgR) : Prop where
  prov : ∃ a n c, r.prov = .slice a n c
  req : ∃ a n c, r.req = .slice a n c
  con : ∃ a n c, r.con = .slice a n c
  obs : ∃ a n c, r.obs = .slice a n c
  reco : ∃ a n c, r.reco = .slice a n c
  sup : ∃ a n c, r.sup = .slice a n c
  sug : ∃ a n c, r.sug = .slice a n c
  enh : ∃ a n c, r.enh = .slice a n c
  files : ∃ a n c, r.files = .slice a n c
theorem form3 {v : Value} {n : Nat} (h : ∃ a c, v = .slice a n c) : ∃ a m c, v = .slice a m c := let ⟨a, c, e⟩ := h; ⟨a, n, c, e⟩
theorem iDepZ : ∃ i, Tryz.prog.info? 32 = some i ∧ i.zero = some (.agg #[.string ⟨#[]⟩, .int .u8 0, .int .i64 0, .string ⟨#[]⟩, .string ⟨#[]⟩]) ∧ i.size = 5 ∧ i.bytes = 64 :=
  info_parts (P := Tryz.prog) (e := 32) (z := .agg #[.string ⟨#[]⟩, .int .u8 0, .int .i64 0, .string ⟨#[]⟩, .string ⟨#[]⟩]) (size := 5) (bytes := 64) (by kernel_rfl)
theorem iStrZ : ∃ i, Tryz.prog.info? 9 = some i ∧ i.zero = some (.string ⟨#[]⟩) ∧ i.size = 1 ∧ i.bytes = 16 :=
  info_parts (P := Tryz.prog) (e := 9) (z := .string ⟨#[]⟩) (size := 1) (bytes := 16) (by kernel_rfl)
theorem own_linD {N : Nat} {w w0 : World} {l : List DepD} {v : Value} {ps : List (DepD × depK.R)} (hf : ps.map Prod.fst = l) (hh : ∀ q ∈ ps, depK.holds anyB w0 q.1 q.2) (hO : Own w 32 5 v l.length (enL depK ps)) (hv : ∀ k, v.ownBlock = some k → N ≤ k) (hn : l.length ≤ 4611686018427387904) : LIn depK (free N) w l v :=
  (show Acc depK 32 N w l v from ⟨ps, hf, hO, hv, fun q hq => hh q hq⟩).done hn (by decide)
theorem own_linS {N : Nat} {w w0 : World} {l : List ByteArray} {v : Value} {ps : List (ByteArray × strK.R)} (hf : ps.map Prod.fst = l) (hh : ∀ q ∈ ps, strK.holds anyB w0 q.1 q.2) (hO : Own w 9 1 v l.length (enL strK ps)) (hv : ∀ k, v.ownBlock = some k → N ≤ k) (hn : l.length ≤ 4611686018427387904) : LIn strK (free N) w l v :=
  (show Acc strK 9 N w l v from ⟨ps, hf, hO, hv, fun q hq => hh q hq⟩).done hn (by decide)
section
variable {o : Oper} {a : Act} {w : World} {K : Act → World → Prop} {Q : Exit → Act → World → Prop}
theorem doF_f0 (t g : Nat) (ho : o.op = .fieldAddr 29 (.tmp t) 0) (hx : a.eval (.tmp t) = .pointer (some ⟨g, 0, none⟩)) (h : K (a.put o.dst (.pointer (some ⟨g, 0, none⟩))) w) : o.wp Tryz.prog a w K Q := by
  unfold Oper.wp execOp
  simp only [ho, hx]
  go_simp
  exact h
theorem doF_f1 (t g : Nat) (ho : o.op = .fieldAddr 29 (.tmp t) 1) (hx : a.eval (.tmp t) = .pointer (some ⟨g, 0, none⟩)) (h : K (a.put o.dst (.pointer (some ⟨g, 1, none⟩))) w) : o.wp Tryz.prog a w K Q := by
  unfold Oper.wp execOp
  simp only [ho, hx]
  go_simp
  exact h
theorem doF_f2 (t g : Nat) (ho : o.op = .fieldAddr 29 (.tmp t) 2) (hx : a.eval (.tmp t) = .pointer (some ⟨g, 0, none⟩)) (h : K (a.put o.dst (.pointer (some ⟨g, 4, none⟩))) w) : o.wp Tryz.prog a w K Q := by
  unfold Oper.wp execOp
  simp only [ho, hx]
  go_simp
  exact h
theorem doF_f3 (t g : Nat) (ho : o.op = .fieldAddr 29 (.tmp t) 3) (hx : a.eval (.tmp t) = .pointer (some ⟨g, 0, none⟩)) (h : K (a.put o.dst (.pointer (some ⟨g, 5, none⟩))) w) : o.wp Tryz.prog a w K Q := by
  unfold Oper.wp execOp
  simp only [ho, hx]
  go_simp
  exact h
theorem doF_f4 (t g : Nat) (ho : o.op = .fieldAddr 29 (.tmp t) 4) (hx : a.eval (.tmp t) = .pointer (some ⟨g, 0, none⟩)) (h : K (a.put o.dst (.pointer (some ⟨g, 6, none⟩))) w) : o.wp Tryz.prog a w K Q := by
  unfold Oper.wp execOp
  simp only [ho, hx]
  go_simp
  exact h
theorem doF_f5 (t g : Nat) (ho : o.op = .fieldAddr 29 (.tmp t) 5) (hx : a.eval (.tmp t) = .pointer (some ⟨g, 0, none⟩)) (h : K (a.put o.dst (.pointer (some ⟨g, 7, none⟩))) w) : o.wp Tryz.prog a w K Q := by
  unfold Oper.wp execOp
  simp only [ho, hx]
  go_simp
  exact h
theorem doF_f6 (t g : Nat) (ho : o.op = .fieldAddr 29 (.tmp t) 6) (hx : a.eval (.tmp t) = .pointer (some ⟨g, 0, none⟩)) (h : K (a.put o.dst (.pointer (some ⟨g, 8, none⟩))) w) : o.wp Tryz.prog a w K Q := by
  unfold Oper.wp execOp
  simp only [ho, hx]
  go_simp
  exact h
theorem doF_f7 (t g : Nat) (ho : o.op = .fieldAddr 29 (.tmp t) 7) (hx : a.eval (.tmp t) = .pointer (some ⟨g, 0, none⟩)) (h : K (a.put o.dst (.pointer (some ⟨g, 9, none⟩))) w) : o.wp Tryz.prog a w K Q := by
  unfold Oper.wp execOp
  simp only [ho, hx]
  go_simp
  exact h
theorem doF_f8 (t g : Nat) (ho : o.op = .fieldAddr 29 (.tmp t) 8) (hx : a.eval (.tmp t) = .pointer (some ⟨g, 0, none⟩)) (h : K (a.put o.dst (.pointer (some ⟨g, 10, none⟩))) w) : o.wp Tryz.prog a w K Q := by
  unfold Oper.wp execOp
  simp only [ho, hx]
  go_simp
  exact h
theorem doF_f9 (t g : Nat) (ho : o.op = .fieldAddr 29 (.tmp t) 9) (hx : a.eval (.tmp t) = .pointer (some ⟨g, 0, none⟩)) (h : K (a.put o.dst (.pointer (some ⟨g, 11, none⟩))) w) : o.wp Tryz.prog a w K Q := by
  unfold Oper.wp execOp
  simp only [ho, hx]
  go_simp
  exact h
theorem doF_f10 (t g : Nat) (ho : o.op = .fieldAddr 29 (.tmp t) 10) (hx : a.eval (.tmp t) = .pointer (some ⟨g, 0, none⟩)) (h : K (a.put o.dst (.pointer (some ⟨g, 12, none⟩))) w) : o.wp Tryz.prog a w K Q := by
  unfold Oper.wp execOp
  simp only [ho, hx]
  go_simp
  exact h
theorem doF_f11 (t g : Nat) (ho : o.op = .fieldAddr 29 (.tmp t) 11) (hx : a.eval (.tmp t) = .pointer (some ⟨g, 0, none⟩)) (h : K (a.put o.dst (.pointer (some ⟨g, 13, none⟩))) w) : o.wp Tryz.prog a w K Q := by
  unfold Oper.wp execOp
  simp only [ho, hx]
  go_simp
  exact h
theorem doF_f12 (t g : Nat) (ho : o.op = .fieldAddr 29 (.tmp t) 12) (hx : a.eval (.tmp t) = .pointer (some ⟨g, 0, none⟩)) (h : K (a.put o.dst (.pointer (some ⟨g, 14, none⟩))) w) : o.wp Tryz.prog a w K Q := by
  unfold Oper.wp execOp
  simp only [ho, hx]
  go_simp
  exact h
theorem doF_str (t g k : Nat) (x : ByteArray) (ho : o.op = .load 9 (.tmp t)) (hx : a.eval (.tmp t) = .pointer (some ⟨g, k, none⟩)) (hc : w.cell? ⟨g, k, none⟩ = some (.string x)) (h : K (a.put o.dst (.string x)) w) : o.wp Tryz.prog a w K Q := by
  unfold Oper.wp execOp
  simp only [ho, hx]
  go_simp
  exact h
theorem doF_u8 (t g k : Nat) (x : Int) (ho : o.op = .load 5 (.tmp t)) (hx : a.eval (.tmp t) = .pointer (some ⟨g, k, none⟩)) (hc : w.cell? ⟨g, k, none⟩ = some (.int .u8 x)) (h : K (a.put o.dst (.int .u8 x)) w) : o.wp Tryz.prog a w K Q := by
  unfold Oper.wp execOp
  simp only [ho, hx]
  go_simp
  exact h
theorem doF_evr (t g : Nat) (ep : Int) (u v : ByteArray) (ho : o.op = .load 24 (.tmp t)) (hx : a.eval (.tmp t) = .pointer (some ⟨g, 1, none⟩)) (h0 : w.cell? ⟨g, 1, none⟩ = some (.int .i64 ep)) (h1 : w.cell? ⟨g, 2, none⟩ = some (.string u)) (h2 : w.cell? ⟨g, 3, none⟩ = some (.string v)) (h : K (a.put o.dst (.agg #[.int .i64 ep, .string u, .string v])) w) : o.wp Tryz.prog a w K Q := by
  unfold Oper.wp execOp
  simp only [ho, hx]
  go_simp
  exact h
theorem doF_slD (t g k : Nat) (v : Value) (aa : Option Addr) (n c : Nat) (hv : v = .slice aa n c) (ho : o.op = .load 25 (.tmp t)) (hx : a.eval (.tmp t) = .pointer (some ⟨g, k, none⟩)) (hc : w.cell? ⟨g, k, none⟩ = some v) (h : K (a.put o.dst v) w) : o.wp Tryz.prog a w K Q := by
  subst hv
  unfold Oper.wp execOp
  simp only [ho, hx]
  go_simp
  exact h
theorem doF_slS (t g k : Nat) (v : Value) (aa : Option Addr) (n c : Nat) (hv : v = .slice aa n c) (ho : o.op = .load 27 (.tmp t)) (hx : a.eval (.tmp t) = .pointer (some ⟨g, k, none⟩)) (hc : w.cell? ⟨g, k, none⟩ = some v) (h : K (a.put o.dst v) w) : o.wp Tryz.prog a w K Q := by
  subst hv
  unfold Oper.wp execOp
  simp only [ho, hx]
  go_simp
  exact h
theorem doF_slR (t g k : Nat) (v : Value) (aa : Option Addr) (n c : Nat) (hv : v = .slice aa n c) (ho : o.op = .load 26 (.tmp t)) (hx : a.eval (.tmp t) = .pointer (some ⟨g, k, none⟩)) (hc : w.cell? ⟨g, k, none⟩ = some v) (h : K (a.put o.dst v) w) : o.wp Tryz.prog a w K Q := by
  subst hv
  unfold Oper.wp execOp
  simp only [ho, hx]
  go_simp
  exact h
theorem doF_emptyD (ho : o.op = .buildSlice 25 0 #[]) (h : K (a.put o.dst (.slice (some ⟨w.heap.size, 0, none⟩) 0 0)) (w.alloc (.cells #[] 32))) : o.wp Tryz.prog a w K Q := by
  unfold Oper.wp execOp
  simp only [ho]
  go_simp
  exact h
theorem doF_emptyS (ho : o.op = .buildSlice 27 0 #[]) (h : K (a.put o.dst (.slice (some ⟨w.heap.size, 0, none⟩) 0 0)) (w.alloc (.cells #[] 9))) : o.wp Tryz.prog a w K Q := by
  unfold Oper.wp execOp
  simp only [ho]
  go_simp
  exact h
theorem doF_copied (t : Nat) (v : Value) (ho : o.op = .call { callee := .value (.func 87), args := #[.tmp t], argTypes := #[26] }) (hx : a.eval (.tmp t) = v) (hc : Calls Tryz.prog 87 #[v] w fun e w' => ∃ u, e = .returned u ∧ K (a.put o.dst u) w') : o.wp Tryz.prog a w K Q := by
  unfold Oper.wp execOp
  simp only [ho, resolve, Sem.run_bind, List.map_toArray, List.map_cons, List.map_nil, hx]
  go_simp
  refine hc.mono ?_
  rintro e w' ⟨u, rfl, hk⟩
  exact hk
end
/-- What the slot of each operation holds. -/
def ok9 (g : Nat) (p : PkgD) (r : PkgR) (N : Nat) (w : World) : Nat → Value → Prop
  | 0, v => v = .pointer (some ⟨g, 0, none⟩)
  | 1, v => v = .string p.name
  | 2, v => v = .pointer (some ⟨g, 1, none⟩)
  | 3, v => v = .agg #[.int .i64 p.ep, .string p.ver, .string p.rel]
  | 4, v => v = .pointer (some ⟨g, 4, none⟩)
  | 5, v => v = .int .u8 p.arch
  | 6, v => v = .pointer (some ⟨g, 5, none⟩)
  | 7, v => v = .string p.vendor
  | 8, v => ∃ ge, v = .slice (some ⟨ge, 0, none⟩) 0 0 ∧ Blk w ge 32 #[] ∧ N ≤ ge
  | 9, v => v = .pointer (some ⟨g, 6, none⟩)
  | 10, v => v = r.prov
  | 11, v => LIn depK (free N) w p.prov v
  | 12, v => v = .pointer (some ⟨g, 7, none⟩)
  | 13, v => v = r.req
  | 14, v => LIn richK (free N) w (argL p.req) v
  | 15, v => v = .pointer (some ⟨g, 8, none⟩)
  | 16, v => v = r.con
  | 17, v => LIn richK (free N) w (argL p.con) v
  | 18, v => ∃ ge, v = .slice (some ⟨ge, 0, none⟩) 0 0 ∧ Blk w ge 32 #[] ∧ N ≤ ge
  | 19, v => v = .pointer (some ⟨g, 9, none⟩)
  | 20, v => v = r.obs
  | 21, v => LIn depK (free N) w p.obs v
  | 22, v => v = .pointer (some ⟨g, 10, none⟩)
  | 23, v => v = r.reco
  | 24, v => LIn richK (free N) w (argL p.reco) v
  | 25, v => v = .pointer (some ⟨g, 11, none⟩)
  | 26, v => v = r.sup
  | 27, v => LIn richK (free N) w (argL p.sup) v
  | 28, v => v = .pointer (some ⟨g, 12, none⟩)
  | 29, v => v = r.sug
  | 30, v => LIn richK (free N) w (argL p.sug) v
  | 31, v => v = .pointer (some ⟨g, 13, none⟩)
  | 32, v => v = r.enh
  | 33, v => LIn richK (free N) w (argL p.enh) v
  | 34, v => ∃ ge, v = .slice (some ⟨ge, 0, none⟩) 0 0 ∧ Blk w ge 9 #[] ∧ N ≤ ge
  | 35, v => v = .pointer (some ⟨g, 14, none⟩)
  | 36, v => v = r.files
  | 37, v => LIn strK (free N) w p.files v
  | 38, v => ∃ r' : PkgR, v = p.val r' ∧ PkgIn (free N) w p r'
  | _, _ => True
theorem ok9_mono {g : Nat} {p : PkgD} {r : PkgR} {N : Nat} {w w' : World} (hb : Below w.heap.size w w') : ∀ {i : Nat} {v : Value}, ok9 g p r N w i v → ok9 g p r N w' i v
  | 0, _, h => h
  | 1, _, h => h
  | 2, _, h => h
  | 3, _, h => h
  | 4, _, h => h
  | 5, _, h => h
  | 6, _, h => h
  | 7, _, h => h
  | 8, _, ⟨ge, e, k, j⟩ => ⟨ge, e, k.bel' hb, j⟩
  | 9, _, h => h
  | 10, _, h => h
  | 11, _, h => LIn.bel h hb
  | 12, _, h => h
  | 13, _, h => h
  | 14, _, h => LIn.bel h hb
  | 15, _, h => h
  | 16, _, h => h
  | 17, _, h => LIn.bel h hb
  | 18, _, ⟨ge, e, k, j⟩ => ⟨ge, e, k.bel' hb, j⟩
  | 19, _, h => h
  | 20, _, h => h
  | 21, _, h => LIn.bel h hb
  | 22, _, h => h
  | 23, _, h => h
  | 24, _, h => LIn.bel h hb
  | 25, _, h => h
  | 26, _, h => h
  | 27, _, h => LIn.bel h hb
  | 28, _, h => h
  | 29, _, h => h
  | 30, _, h => LIn.bel h hb
  | 31, _, h => h
  | 32, _, h => h
  | 33, _, h => LIn.bel h hb
  | 34, _, ⟨ge, e, k, j⟩ => ⟨ge, e, k.bel' hb, j⟩
  | 35, _, h => h
  | 36, _, h => h
  | 37, _, h => LIn.bel h hb
  | 38, _, ⟨r', e, h⟩ => ⟨r', e, PkgIn.belN h hb⟩
  | _ + 39, _, _ => trivial
abbrev ops9 : List Op := [.fieldAddr 29 (.tmp 1) 0, .load 9 (.tmp 3), .fieldAddr 29 (.tmp 1) 1, .load 24 (.tmp 5), .fieldAddr 29 (.tmp 1) 2, .load 5 (.tmp 7), .fieldAddr 29 (.tmp 1) 3, .load 9 (.tmp 9), .buildSlice 25 0 #[], .fieldAddr 29 (.tmp 1) 4, .load 25 (.tmp 12), .call { callee := .builtin .append, args := #[.tmp 11, .tmp 13], argTypes := #[25, 25] }, .fieldAddr 29 (.tmp 1) 5, .load 26 (.tmp 15), .call { callee := .value (.func 87), args := #[.tmp 16], argTypes := #[26] }, .fieldAddr 29 (.tmp 1) 6, .load 26 (.tmp 18), .call { callee := .value (.func 87), args := #[.tmp 19], argTypes := #[26] }, .buildSlice 25 0 #[], .fieldAddr 29 (.tmp 1) 7, .load 25 (.tmp 22), .call { callee := .builtin .append, args := #[.tmp 21, .tmp 23], argTypes := #[25, 25] }, .fieldAddr 29 (.tmp 1) 8, .load 26 (.tmp 25), .call { callee := .value (.func 87), args := #[.tmp 26], argTypes := #[26] }, .fieldAddr 29 (.tmp 1) 9, .load 26 (.tmp 28), .call { callee := .value (.func 87), args := #[.tmp 29], argTypes := #[26] }, .fieldAddr 29 (.tmp 1) 10, .load 26 (.tmp 31), .call { callee := .value (.func 87), args := #[.tmp 32], argTypes := #[26] }, .fieldAddr 29 (.tmp 1) 11, .load 26 (.tmp 34), .call { callee := .value (.func 87), args := #[.tmp 35], argTypes := #[26] }, .buildSlice 27 0 #[], .fieldAddr 29 (.tmp 1) 12, .load 27 (.tmp 38), .call { callee := .builtin .append, args := #[.tmp 37, .tmp 39], argTypes := #[27, 27] }, .build 29 #[(0, .tmp 4), (1, .tmp 6), (2, .tmp 8), (3, .tmp 10), (4, .tmp 14), (5, .tmp 17), (6, .tmp 20), (7, .tmp 24), (8, .tmp 27), (9, .tmp 30), (10, .tmp 33), (11, .tmp 36), (12, .tmp 40)], .store 29 (.tmp 2) (.tmp 41)]
abbrev deps9 : List (List Nat) := [[], [0], [], [2], [], [4], [], [6], [], [], [9], [8, 10], [], [12], [13], [], [15], [16], [], [], [19], [18, 20], [], [22], [23], [], [25], [26], [], [28], [29], [], [31], [32], [], [], [35], [34, 36], [1, 3, 5, 7, 11, 14, 17, 21, 24, 27, 30, 33, 37], [0, 1, 2, 3, 4, 5, 6, 7, 8, 9, 10, 11, 12, 13, 14, 15, 16, 17, 18, 19, 20, 21, 22, 23, 24, 25, 26, 27, 28, 29, 30, 31, 32, 33, 34, 35, 36, 37, 38]]
def Fin9 (g : Nat) (p : PkgD) (w0 : World) (N : Nat) (_ : List Value) (W : World) : Prop := ∃ r' : PkgR, Blk W (g + 1) 29 (pC p r') ∧ PkgIn (free N) W p r' ∧ Below w0.heap.size w0 W
set_option maxHeartbeats 16000000 in
theorem region_copy {L : List Value} {w0 n0 : World} {g : Nat} {p : PkgD} {r : PkgR} {ops : Array Oper} {Q : Exit → Act → World → Prop} {id : Nat} (hL : L.length = 42) (hsz : ops.size = 40)
    (hL1 : (L[1]?).getD undef = .pointer (some ⟨g, 0, none⟩)) (hL2 : (L[2]?).getD undef = .pointer (some ⟨g + 1, 0, none⟩))
    (hin : PkgIn anyB w0 p r) (hfm : r.forms) (hsm : p.small) (hw0 : Below w0.heap.size w0 n0) (hg : w0.heap.size ≤ g ∧ g + 1 < n0.heap.size) (hb1 : Blk n0 g 29 (pC p r)) (zc : Array Value) (hb2 : Blk n0 (g + 1) 29 zc) (hzc : zc.size = 15)
    (hops : (ops.toList.map fun o => (o.op, o.guard)) = ops9.map fun x => (x, none)) (hdst : (ops.toList.map (·.dst)) = ((List.range 39).map fun i => some (3 + i)) ++ [none])
    (hdeps : ((ops.toList.zip deps9).all fun x => x.2.all fun d => x.1.after.any fun e => e.on == d && Region.binds .any e) = true)
    (hlow : (ops.toList.zipIdx.all fun x => x.1.after.all fun e => decide (e.on < x.2)) = true)
    (hK : ∀ mid W, mid.length = 39 → Fin9 g p w0 n0.heap.size mid W → Q .normal (frm (L.take 3) mid []) W) :
    (Code.region id ops true).wp Tryz.prog Q { tmps := L.toArray, defers := [] } n0 := by
  obtain ⟨N, hN⟩ : ∃ N, N = n0.heap.size := ⟨_, rfl⟩
  have hF1 : ∀ mid, (frm (L.take 3) mid []).eval (.tmp 1) = .pointer (some ⟨g, 0, none⟩) := fun mid => (frm_front (by rw [List.length_take]; omega)).trans (by rw [List.getElem?_take_of_lt (by omega)]; exact hL1)
  have hF2 : ∀ mid, (frm (L.take 3) mid []).eval (.tmp 2) = .pointer (some ⟨g + 1, 0, none⟩) := fun mid => (frm_front (by rw [List.length_take]; omega)).trans (by rw [List.getElem?_take_of_lt (by omega)]; exact hL2)
  have hbx : ∀ w, Below n0.heap.size n0 w → Blk w g 29 (pC p r) := fun w h => hb1.bel' h
  have hop_at : ∀ (i : Nat) (o : Oper) (x : Op), ops[i]? = some o → ops9[i]? = some x → o.op = x ∧ o.guard = none := fun i o x ho hx => by
    have h4 := congrArg (fun l => l[i]?) hops
    rw [List.getElem?_map, List.getElem?_map, Array.getElem?_toList, ho, hx] at h4
    exact Prod.mk.inj (Option.some.inj h4)
  rw [← hN] at hK
  refine spec_last (ok := ok9 g p r N) (Fin9 g p w0 N) (fun hb h => ok9_mono hb h) (n := 3) (K := 39) (M := 39) (by omega) (by omega) hsz deps9 hdst hdeps rfl rfl hlow (fun i o mid w hi ho hm hb hdp => ?_) (fun o mid w ho hm hb hall => ?_) hK
  · replace hF1 := hF1 mid
    have hbN : N ≤ w.heap.size := hN ▸ hb.size
    have hcases : i = 0 ∨ i = 1 ∨ i = 2 ∨ i = 3 ∨ i = 4 ∨ i = 5 ∨ i = 6 ∨ i = 7 ∨ i = 8 ∨ i = 9 ∨ i = 10 ∨ i = 11 ∨ i = 12 ∨ i = 13 ∨ i = 14 ∨ i = 15 ∨ i = 16 ∨ i = 17 ∨ i = 18 ∨ i = 19 ∨ i = 20 ∨ i = 21 ∨ i = 22 ∨ i = 23 ∨ i = 24 ∨ i = 25 ∨ i = 26 ∨ i = 27 ∨ i = 28 ∨ i = 29 ∨ i = 30 ∨ i = 31 ∨ i = 32 ∨ i = 33 ∨ i = 34 ∨ i = 35 ∨ i = 36 ∨ i = 37 ∨ i = 38 := by omega
    rcases hcases with rfl | rfl | rfl | rfl | rfl | rfl | rfl | rfl | rfl | rfl | rfl | rfl | rfl | rfl | rfl | rfl | rfl | rfl | rfl | rfl | rfl | rfl | rfl | rfl | rfl | rfl | rfl | rfl | rfl | rfl | rfl | rfl | rfl | rfl | rfl | rfl | rfl | rfl | rfl
    all_goals
      obtain ⟨hop, hgd⟩ := hop_at _ _ _ ho rfl
      have hd := hdp _ rfl
      clear hdp hop_at ho
    · exact ⟨guard_no hgd, fun Kc hKc => doF_f0 1 g hop hF1 (hKc _ _ rfl (Below.refl _ _))⟩
    · exact ⟨guard_no hgd, fun Kc hKc => doF_str 3 g 0 _ hop (hd 0 (by simp)) ((hbx w hb).cell 0) (hKc _ _ rfl (Below.refl _ _))⟩
    · exact ⟨guard_no hgd, fun Kc hKc => doF_f1 1 g hop hF1 (hKc _ _ rfl (Below.refl _ _))⟩
    · exact ⟨guard_no hgd, fun Kc hKc => doF_evr 5 g _ _ _ hop (hd 2 (by simp)) ((hbx w hb).cell 1) ((hbx w hb).cell 2) ((hbx w hb).cell 3) (hKc _ _ rfl (Below.refl _ _))⟩
    · exact ⟨guard_no hgd, fun Kc hKc => doF_f2 1 g hop hF1 (hKc _ _ rfl (Below.refl _ _))⟩
    · exact ⟨guard_no hgd, fun Kc hKc => doF_u8 7 g 4 _ hop (hd 4 (by simp)) ((hbx w hb).cell 4) (hKc _ _ rfl (Below.refl _ _))⟩
    · exact ⟨guard_no hgd, fun Kc hKc => doF_f3 1 g hop hF1 (hKc _ _ rfl (Below.refl _ _))⟩
    · exact ⟨guard_no hgd, fun Kc hKc => doF_str 9 g 5 _ hop (hd 6 (by simp)) ((hbx w hb).cell 5) (hKc _ _ rfl (Below.refl _ _))⟩
    · exact ⟨guard_no hgd, fun Kc hKc => doF_emptyD hop (hKc _ _ ⟨w.heap.size, rfl, Blk.new _ _ _, hbN⟩ (new_b _ _))⟩
    · exact ⟨guard_no hgd, fun Kc hKc => doF_f4 1 g hop hF1 (hKc _ _ rfl (Below.refl _ _))⟩
    · obtain ⟨aa, nn, cc, hv⟩ := hfm.prov
      exact ⟨guard_no hgd, fun Kc hKc => doF_slD 12 g 6 _ aa nn cc hv hop (hd 9 (by simp)) ((hbx w hb).cell 6) (hKc _ _ rfl (Below.refl _ _))⟩
    · obtain ⟨ge, e1, e2, e3⟩ := hd 8 (by simp)
      have e4 := hd 10 (by simp)
      obtain ⟨ii, hi1, hz0, hz1, hz2⟩ := iDepZ
      obtain ⟨ps, q1, q2, q3⟩ := hin.prov.src (tx := 25) (t := 32) Tryz.underlying25 ()
      refine ⟨guard_no hgd, fun Kc hKc => wp_append_Z (.tmp 11) (.tmp 13) _ _ hop 32 ii _ 5 64 Tryz.underlying25 hi1 hz0 hz1 hz2 rfl (by omega) ge e1 e2 _ _ _ e4 (q2 w (below_t' hw0 hb)) (by have := hsm.prov; simp only [maxLen]; omega) (by have := hsm.prov; omega) fun v' w' k1 k2 k3 => hKc v' w' (own_linD (N := N) q1 (fun q hq => q3 q hq) k1 (fun k hk => by rcases k3 k hk with h | h <;> omega) (by have := hsm.prov; omega)) k2⟩
    · exact ⟨guard_no hgd, fun Kc hKc => doF_f5 1 g hop hF1 (hKc _ _ rfl (Below.refl _ _))⟩
    · obtain ⟨aa, nn, cc, hv⟩ := hfm.req
      exact ⟨guard_no hgd, fun Kc hKc => doF_slR 15 g 7 _ aa nn cc hv hop (hd 12 (by simp)) ((hbx w hb).cell 7) (hKc _ _ rfl (Below.refl _ _))⟩
    · have e1 := hd 13 (by simp)
      refine ⟨guard_no hgd, fun Kc hKc => doF_copied 16 _ hop e1 ((rcopied_any (argL p.req) r.req w (hin.req.below (below_t' hw0 hb) fun _ _ _ => trivial) (fun x hx => hsm.creq x hx) hsm.req).mono ?_)⟩
      rintro e w' ⟨v', rfl, k1, k2⟩
      exact ⟨v', rfl, hKc v' w' (k1.keep (Nat.le_refl _) fun b ⟨j1, j2⟩ _ => ⟨rfl, Nat.le_trans hbN j1, j2⟩) k2⟩
    · exact ⟨guard_no hgd, fun Kc hKc => doF_f6 1 g hop hF1 (hKc _ _ rfl (Below.refl _ _))⟩
    · obtain ⟨aa, nn, cc, hv⟩ := hfm.con
      exact ⟨guard_no hgd, fun Kc hKc => doF_slR 18 g 8 _ aa nn cc hv hop (hd 15 (by simp)) ((hbx w hb).cell 8) (hKc _ _ rfl (Below.refl _ _))⟩
    · have e1 := hd 16 (by simp)
      refine ⟨guard_no hgd, fun Kc hKc => doF_copied 19 _ hop e1 ((rcopied_any (argL p.con) r.con w (hin.con.below (below_t' hw0 hb) fun _ _ _ => trivial) (fun x hx => hsm.ccon x hx) hsm.con).mono ?_)⟩
      rintro e w' ⟨v', rfl, k1, k2⟩
      exact ⟨v', rfl, hKc v' w' (k1.keep (Nat.le_refl _) fun b ⟨j1, j2⟩ _ => ⟨rfl, Nat.le_trans hbN j1, j2⟩) k2⟩
    · exact ⟨guard_no hgd, fun Kc hKc => doF_emptyD hop (hKc _ _ ⟨w.heap.size, rfl, Blk.new _ _ _, hbN⟩ (new_b _ _))⟩
    · exact ⟨guard_no hgd, fun Kc hKc => doF_f7 1 g hop hF1 (hKc _ _ rfl (Below.refl _ _))⟩
    · obtain ⟨aa, nn, cc, hv⟩ := hfm.obs
      exact ⟨guard_no hgd, fun Kc hKc => doF_slD 22 g 9 _ aa nn cc hv hop (hd 19 (by simp)) ((hbx w hb).cell 9) (hKc _ _ rfl (Below.refl _ _))⟩
    · obtain ⟨ge, e1, e2, e3⟩ := hd 18 (by simp)
      have e4 := hd 20 (by simp)
      obtain ⟨ii, hi1, hz0, hz1, hz2⟩ := iDepZ
      obtain ⟨ps, q1, q2, q3⟩ := hin.obs.src (tx := 25) (t := 32) Tryz.underlying25 ()
      refine ⟨guard_no hgd, fun Kc hKc => wp_append_Z (.tmp 21) (.tmp 23) _ _ hop 32 ii _ 5 64 Tryz.underlying25 hi1 hz0 hz1 hz2 rfl (by omega) ge e1 e2 _ _ _ e4 (q2 w (below_t' hw0 hb)) (by have := hsm.obs; simp only [maxLen]; omega) (by have := hsm.obs; omega) fun v' w' k1 k2 k3 => hKc v' w' (own_linD (N := N) q1 (fun q hq => q3 q hq) k1 (fun k hk => by rcases k3 k hk with h | h <;> omega) (by have := hsm.obs; omega)) k2⟩
    · exact ⟨guard_no hgd, fun Kc hKc => doF_f8 1 g hop hF1 (hKc _ _ rfl (Below.refl _ _))⟩
    · obtain ⟨aa, nn, cc, hv⟩ := hfm.reco
      exact ⟨guard_no hgd, fun Kc hKc => doF_slR 25 g 10 _ aa nn cc hv hop (hd 22 (by simp)) ((hbx w hb).cell 10) (hKc _ _ rfl (Below.refl _ _))⟩
    · have e1 := hd 23 (by simp)
      refine ⟨guard_no hgd, fun Kc hKc => doF_copied 26 _ hop e1 ((rcopied_any (argL p.reco) r.reco w (hin.reco.below (below_t' hw0 hb) fun _ _ _ => trivial) (fun x hx => hsm.creco x hx) hsm.reco).mono ?_)⟩
      rintro e w' ⟨v', rfl, k1, k2⟩
      exact ⟨v', rfl, hKc v' w' (k1.keep (Nat.le_refl _) fun b ⟨j1, j2⟩ _ => ⟨rfl, Nat.le_trans hbN j1, j2⟩) k2⟩
    · exact ⟨guard_no hgd, fun Kc hKc => doF_f9 1 g hop hF1 (hKc _ _ rfl (Below.refl _ _))⟩
    · obtain ⟨aa, nn, cc, hv⟩ := hfm.sup
      exact ⟨guard_no hgd, fun Kc hKc => doF_slR 28 g 11 _ aa nn cc hv hop (hd 25 (by simp)) ((hbx w hb).cell 11) (hKc _ _ rfl (Below.refl _ _))⟩
    · have e1 := hd 26 (by simp)
      refine ⟨guard_no hgd, fun Kc hKc => doF_copied 29 _ hop e1 ((rcopied_any (argL p.sup) r.sup w (hin.sup.below (below_t' hw0 hb) fun _ _ _ => trivial) (fun x hx => hsm.csup x hx) hsm.sup).mono ?_)⟩
      rintro e w' ⟨v', rfl, k1, k2⟩
      exact ⟨v', rfl, hKc v' w' (k1.keep (Nat.le_refl _) fun b ⟨j1, j2⟩ _ => ⟨rfl, Nat.le_trans hbN j1, j2⟩) k2⟩
    · exact ⟨guard_no hgd, fun Kc hKc => doF_f10 1 g hop hF1 (hKc _ _ rfl (Below.refl _ _))⟩
    · obtain ⟨aa, nn, cc, hv⟩ := hfm.sug
      exact ⟨guard_no hgd, fun Kc hKc => doF_slR 31 g 12 _ aa nn cc hv hop (hd 28 (by simp)) ((hbx w hb).cell 12) (hKc _ _ rfl (Below.refl _ _))⟩
    · have e1 := hd 29 (by simp)
      refine ⟨guard_no hgd, fun Kc hKc => doF_copied 32 _ hop e1 ((rcopied_any (argL p.sug) r.sug w (hin.sug.below (below_t' hw0 hb) fun _ _ _ => trivial) (fun x hx => hsm.csug x hx) hsm.sug).mono ?_)⟩
      rintro e w' ⟨v', rfl, k1, k2⟩
      exact ⟨v', rfl, hKc v' w' (k1.keep (Nat.le_refl _) fun b ⟨j1, j2⟩ _ => ⟨rfl, Nat.le_trans hbN j1, j2⟩) k2⟩
    · exact ⟨guard_no hgd, fun Kc hKc => doF_f11 1 g hop hF1 (hKc _ _ rfl (Below.refl _ _))⟩
    · obtain ⟨aa, nn, cc, hv⟩ := hfm.enh
      exact ⟨guard_no hgd, fun Kc hKc => doF_slR 34 g 13 _ aa nn cc hv hop (hd 31 (by simp)) ((hbx w hb).cell 13) (hKc _ _ rfl (Below.refl _ _))⟩
    · have e1 := hd 32 (by simp)
      refine ⟨guard_no hgd, fun Kc hKc => doF_copied 35 _ hop e1 ((rcopied_any (argL p.enh) r.enh w (hin.enh.below (below_t' hw0 hb) fun _ _ _ => trivial) (fun x hx => hsm.cenh x hx) hsm.enh).mono ?_)⟩
      rintro e w' ⟨v', rfl, k1, k2⟩
      exact ⟨v', rfl, hKc v' w' (k1.keep (Nat.le_refl _) fun b ⟨j1, j2⟩ _ => ⟨rfl, Nat.le_trans hbN j1, j2⟩) k2⟩
    · exact ⟨guard_no hgd, fun Kc hKc => doF_emptyS hop (hKc _ _ ⟨w.heap.size, rfl, Blk.new _ _ _, hbN⟩ (new_b _ _))⟩
    · exact ⟨guard_no hgd, fun Kc hKc => doF_f12 1 g hop hF1 (hKc _ _ rfl (Below.refl _ _))⟩
    · obtain ⟨aa, nn, cc, hv⟩ := hfm.files
      exact ⟨guard_no hgd, fun Kc hKc => doF_slS 38 g 14 _ aa nn cc hv hop (hd 35 (by simp)) ((hbx w hb).cell 14) (hKc _ _ rfl (Below.refl _ _))⟩
    · obtain ⟨ge, e1, e2, e3⟩ := hd 34 (by simp)
      have e4 := hd 36 (by simp)
      obtain ⟨ii, hi1, hz0, hz1, hz2⟩ := iStrZ
      obtain ⟨ps, q1, q2, q3⟩ := hin.files.src (tx := 27) (t := 9) Tryz.underlying27 ()
      refine ⟨guard_no hgd, fun Kc hKc => wp_append_Z (.tmp 37) (.tmp 39) _ _ hop 9 ii _ 1 16 Tryz.underlying27 hi1 hz0 hz1 hz2 rfl (by omega) ge e1 e2 _ _ _ e4 (q2 w (below_t' hw0 hb)) (by have := hsm.files; simp only [maxLen]; omega) (by have := hsm.files; omega) fun v' w' k1 k2 k3 => hKc v' w' (own_linS (N := N) q1 (fun q hq => q3 q hq) k1 (fun k hk => by rcases k3 k hk with h | h <;> omega) (by have := hsm.files; omega)) k2⟩
    · have z1 := hd 1 (by simp)
      have z3 := hd 3 (by simp)
      have z5 := hd 5 (by simp)
      have z7 := hd 7 (by simp)
      have z11 := hd 11 (by simp)
      have z14 := hd 14 (by simp)
      have z17 := hd 17 (by simp)
      have z21 := hd 21 (by simp)
      have z24 := hd 24 (by simp)
      have z27 := hd 27 (by simp)
      have z30 := hd 30 (by simp)
      have z33 := hd 33 (by simp)
      have z37 := hd 37 (by simp)
      generalize hy11 : (frm (L.take 3) mid []).eval (.tmp (3 + 11)) = y11 at z11
      generalize hy14 : (frm (L.take 3) mid []).eval (.tmp (3 + 14)) = y14 at z14
      generalize hy17 : (frm (L.take 3) mid []).eval (.tmp (3 + 17)) = y17 at z17
      generalize hy21 : (frm (L.take 3) mid []).eval (.tmp (3 + 21)) = y21 at z21
      generalize hy24 : (frm (L.take 3) mid []).eval (.tmp (3 + 24)) = y24 at z24
      generalize hy27 : (frm (L.take 3) mid []).eval (.tmp (3 + 27)) = y27 at z27
      generalize hy30 : (frm (L.take 3) mid []).eval (.tmp (3 + 30)) = y30 at z30
      generalize hy33 : (frm (L.take 3) mid []).eval (.tmp (3 + 33)) = y33 at z33
      generalize hy37 : (frm (L.take 3) mid []).eval (.tmp (3 + 37)) = y37 at z37
      obtain ⟨a11, m11, c11, k11⟩ := form3 z11.form
      subst k11
      obtain ⟨a14, m14, c14, k14⟩ := form3 z14.form
      subst k14
      obtain ⟨a17, m17, c17, k17⟩ := form3 z17.form
      subst k17
      obtain ⟨a21, m21, c21, k21⟩ := form3 z21.form
      subst k21
      obtain ⟨a24, m24, c24, k24⟩ := form3 z24.form
      subst k24
      obtain ⟨a27, m27, c27, k27⟩ := form3 z27.form
      subst k27
      obtain ⟨a30, m30, c30, k30⟩ := form3 z30.form
      subst k30
      obtain ⟨a33, m33, c33, k33⟩ := form3 z33.form
      subst k33
      obtain ⟨a37, m37, c37, k37⟩ := form3 z37.form
      subst k37
      refine ⟨guard_no hgd, fun Kc hKc => doR_build hop [(0, .string p.name), (1, .agg #[.int .i64 p.ep, .string p.ver, .string p.rel]), (2, .int .u8 p.arch), (3, .string p.vendor), (4, .slice a11 m11 c11), (5, .slice a14 m14 c14), (6, .slice a17 m17 c17), (7, .slice a21 m21 c21), (8, .slice a24 m24 c24), (9, .slice a27 m27 c27), (10, .slice a30 m30 c30), (11, .slice a33 m33 c33), (12, .slice a37 m37 c37)] ?_ (pC p ⟨.slice a11 m11 c11, .slice a14 m14 c14, .slice a17 m17 c17, .slice a21 m21 c21, .slice a24 m24 c24, .slice a27 m27 c27, .slice a30 m30 c30, .slice a33 m33 c33, .slice a37 m37 c37⟩) (by kernel_rfl) (hKc _ _ ⟨⟨.slice a11 m11 c11, .slice a14 m14 c14, .slice a17 m17 c17, .slice a21 m21 c21, .slice a24 m24 c24, .slice a27 m27 c27, .slice a30 m30 c30, .slice a33 m33 c33, .slice a37 m37 c37⟩, rfl, ⟨hin.s1, hin.s2, hin.s3, hin.s4, hin.ar, hin.ep, z11, z14, z17, z21, z24, z27, z30, z33, z37⟩⟩ (Below.refl _ _))⟩
      show [(0, (frm (L.take 3) mid []).eval (.tmp (3 + 1))), (1, (frm (L.take 3) mid []).eval (.tmp (3 + 3))), (2, (frm (L.take 3) mid []).eval (.tmp (3 + 5))), (3, (frm (L.take 3) mid []).eval (.tmp (3 + 7))), (4, (frm (L.take 3) mid []).eval (.tmp (3 + 11))), (5, (frm (L.take 3) mid []).eval (.tmp (3 + 14))), (6, (frm (L.take 3) mid []).eval (.tmp (3 + 17))), (7, (frm (L.take 3) mid []).eval (.tmp (3 + 21))), (8, (frm (L.take 3) mid []).eval (.tmp (3 + 24))), (9, (frm (L.take 3) mid []).eval (.tmp (3 + 27))), (10, (frm (L.take 3) mid []).eval (.tmp (3 + 30))), (11, (frm (L.take 3) mid []).eval (.tmp (3 + 33))), (12, (frm (L.take 3) mid []).eval (.tmp (3 + 37)))] = _
      rw [z1, z3, z5, z7, hy11, hy14, hy17, hy21, hy24, hy27, hy30, hy33, hy37]
  · obtain ⟨hop, hgd⟩ := hop_at 39 o _ ho rfl
    obtain ⟨r', e1, e2⟩ := hall 38 (by omega)
    refine ⟨guard_no hgd, fun Kc hKc => ?_⟩
    have hb2' := hb2.bel' hb
    refine wp_store_row 29 (.tmp 2) (.tmp 41) hop (g + 1) (pC p r') (hF2 mid) e1 29 zc hb2' (by kernel_rfl) hzc ?_ ?_
    · have h := pkgK.one (B := free N) (w := w) (x := p) (r := r') e2
      rw [Array.all_eq_true_iff_forall_mem]
      intro u hu
      exact h u (by simpa [pkgK, pkgCs] using hu)
    · have hd : o.dst = none := by
        have h4 := congrArg (fun l => l[39]?) hdst
        rw [List.getElem?_map, Array.getElem?_toList, ho] at h4
        exact Option.some.inj h4
      have hput : (frm (L.take 3) mid []).put o.dst undef = frm (L.take 3) mid [] := by rw [hd]; rfl
      rw [hput]
      refine hKc _ ⟨r', hb2'.row _, e2.keep (by simp) fun b ⟨k1, k2⟩ _ => ?_, bel_setRow (below_t' hw0 hb) (by omega) _⟩
      have hne : b ≠ g + 1 := by omega
      have hbk := setRow_other w (g + 1) b (pC p r') hne
      exact ⟨hbk, k1, fun i => (World.frozen?_of_block (w := w) hbk).trans (k2 i)⟩
set_option maxHeartbeats 8000000 in
theorem r10copy_any (p : PkgD) (r : PkgR) (w : World) (hp : PkgIn anyB w p r) (hsm : p.small) : Calls Tryz.prog 46 #[p.val r] w fun e w' => (∃ r', e = .returned (p.val r') ∧ PkgIn (free w.heap.size) w' p r') ∧ Below w.heap.size w w' := by
  have hfm : r.forms := ⟨(let ⟨a, c, h⟩ := hp.prov.form; ⟨a, _, c, h⟩), (let ⟨a, c, h⟩ := hp.req.form; ⟨a, _, c, h⟩), (let ⟨a, c, h⟩ := hp.con.form; ⟨a, _, c, h⟩), (let ⟨a, c, h⟩ := hp.obs.form; ⟨a, _, c, h⟩), (let ⟨a, c, h⟩ := hp.reco.form; ⟨a, _, c, h⟩), (let ⟨a, c, h⟩ := hp.sup.form; ⟨a, _, c, h⟩), (let ⟨a, c, h⟩ := hp.sug.form; ⟨a, _, c, h⟩), (let ⟨a, c, h⟩ := hp.enh.form; ⟨a, _, c, h⟩), (let ⟨a, c, h⟩ := hp.files.form; ⟨a, _, c, h⟩)⟩
  obtain ⟨g, hg⟩ : ∃ g, g = w.heap.size := ⟨_, rfl⟩
  obtain ⟨W, hW⟩ : ∃ W, W = (w.alloc (.cells (pC p r) 29)).alloc (.cells (pC zeroP nilPR) 29) := ⟨_, rfl⟩
  have HX := Lib.hid (show Blk W g 29 (pC p r) ∧ Blk W (g + 1) 29 (pC zeroP nilPR) ∧ Below w.heap.size w W ∧ W.heap.size = g + 2 from by
    have hb1 := new_b w (.cells (pC p r) 29)
    have hb2 := new_b (w.alloc (.cells (pC p r) 29)) (.cells (pC zeroP nilPR) 29)
    have hx1 := Blk.new w 29 (pC p r)
    have hx2 := Blk.new (w.alloc (.cells (pC p r) 29)) 29 (pC zeroP nilPR)
    rw [World.size_alloc] at hx2
    rw [hW, hg]
    exact ⟨hx1.below hb2 hx1.lt, hx2, below_t' hb1 hb2, by simp⟩)
  have HP := Lib.hid hp
  have HF := Lib.hid hfm
  have HG := Lib.hid hg
  obtain ⟨⟨q1, q2, q3, e1⟩, ⟨q4, q5, q6, e2⟩, ⟨q7, q8, q9, e3⟩, ⟨q10, q11, q12, e4⟩, ⟨q13, q14, q15, e5⟩, ⟨q16, q17, q18, e6⟩, ⟨q19, q20, q21, e7⟩, ⟨q22, q23, q24, e8⟩, ⟨q25, q26, q27, e9⟩⟩ := hfm
  rcases r with ⟨r0, r1, r2, r3, r4, r5, r6, r7, r8⟩
  dsimp only at e1 e2 e3 e4 e5 e6 e7 e8 e9
  subst e1 e2 e3 e4 e5 e6 e7 e8 e9
  have HSm := Lib.hid hsm
  clear hp hsm
  go_enter Tryz.func46, Tryz.ntmps46
  go_upto_region 1 with fail
  dsimp only [pC, zeroP, nilPR] at hW
  rw [← hW, ← hg]
  clear hW hg
  refine region_copy (w0 := w) (g := g) (p := p) (r := _) (by kernel_rfl) (by kernel_rfl) rfl rfl HP.out HF.out HSm.out HX.out.2.2.1 ⟨Nat.le_of_eq HG.out.symm, by have := HX.out.2.2.2; omega⟩ HX.out.1 _ HX.out.2.1 rfl (by kernel_rfl) (by kernel_rfl) (by kernel_rfl) (by kernel_rfl) ?_
  intro mid V hm hf
  obtain ⟨r', h1, h2, h3⟩ := hf
  rename_i hk
  go_step
  refine hk _ _ ?_
  go_step
  exact bodyPost_ret (results_cell_row rfl _ _ (g + 1) 29 _ (0, 0) _ rfl h1 Tryz.underlying29 rfl (by kernel_rfl)) rfl ⟨⟨r', rfl, h2.keep (Nat.le_refl _) fun b ⟨k1, k2⟩ _ => ⟨rfl, by have := HX.out.2.2.2; have := HG.out; omega, k2⟩⟩, h3⟩
end Go.Proofs.YtdpjjnbelgaagaaGreatDoor
