/- Steps: do, played. -/
import Derived.Test.YtiejdladmoncaaaT14
namespace Go.Proofs.Ytiejdladmoncaaa
open Go.ChangeShapes Go.WideShapes Go.ChangeAt Go.RowKit
set_option maxRecDepth 100000

structure StepD where
  kind : Int
  lit : Int
  reason : Int

structure StepD.wf (s : StepD) : Prop where
  kind : 0 ≤ s.kind ∧ s.kind ≤ 255
  lit : I64 s.lit
  reason : I64 s.reason

/-- The steps' cells, in blocks below B. -/
structure IsSteps (w : World) (B : Nat) (ao : Option Addr) (b off : Nat) (l : List StepD) : Prop where
  ptr : 0 < l.length → ao = some ⟨b, off, none⟩ ∧ b < B
  wf : ∀ i (h : i < l.length), l[i].wf
  kind : ∀ i (h : i < l.length), w.cell? ⟨b, off + i * 3, none⟩ = some (.int .u8 l[i].kind)
  lit : ∀ i (h : i < l.length), w.cell? ⟨b, off + i * 3 + 1, none⟩ = some (.int .i64 l[i].lit)
  reason : ∀ i (h : i < l.length), w.cell? ⟨b, off + i * 3 + 2, none⟩ = some (.int .i64 l[i].reason)

theorem IsSteps.below {w w' : World} {B b off : Nat} {ao : Option Addr} {l : List StepD} (h : IsSteps w B ao b off l) (hb : Below B w w') : IsSteps w' B ao b off l := by
  have hc : ∀ j, 0 < l.length → w'.cell? ⟨b, j, none⟩ = w.cell? ⟨b, j, none⟩ := fun j hl =>
    World.cell?_of_block (w := w) (hb.block b (h.ptr hl).2)
  exact ⟨h.ptr, h.wf, fun i hi => (hc _ (by omega)).trans (h.kind i hi), fun i hi => (hc _ (by omega)).trans (h.lit i hi), fun i hi => (hc _ (by omega)).trans (h.reason i hi)⟩

def doC (n : Nat) (es : List En) (s : StepD) : Int × List En := if s.kind = 0 then decC n es s.lit else if s.kind = 1 then asnC n es s.lit s.reason else backC es s.lit
def playE (n : Nat) (es : List En) (l : List StepD) : List En := l.foldl (fun es s => (doC n es s).2) es

theorem doC_good {n : Nat} {es : List En} (s : StepD) (h : Good n es) : Good n (doC n es s).2 := by
  unfold doC
  split
  · exact decC_good _ h
  · split
    · exact asnC_good _ _ h
    · exact backC_good _ h
theorem playE_good {n : Nat} : ∀ (l : List StepD) {es : List En}, Good n es → Good n (playE n es l)
  | [], _, h => h
  | s :: l, _, h => playE_good l (doC_good s h)
theorem playE_succ (n : Nat) (es : List En) (l : List StepD) (k : Nat) (h : k < l.length) : playE n es (l.take (k + 1)) = (doC n (playE n es (l.take k)) l[k]).2 := by
  unfold playE
  rw [List.take_succ_eq_append_getElem h, List.foldl_append]
  rfl

section
variable {w0 w : World} {X : Nat → Prop} {L : List (Nat × TrD)} {g n : Nat} {es : List En}

theorem do_tr (h : Trails w0 w X L) (i : Nat) (hL : L[i]? = some (g, trE n es)) (hg : Good n es) (hn : n ≤ 5000) (k x r : Int) (hs : (⟨k, x, r⟩ : StepD).wf) :
    Calls Try.prog 20 #[.agg #[.int .u8 k, .int .i64 x, .int .i64 r], .pointer (some ⟨g, 0, none⟩)] w fun e w' => e = .returned (.int .i64 (doC n es ⟨k, x, r⟩).1) ∧ Trails w0 w' X (L.set i (g, trE n (doC n es ⟨k, x, r⟩).2)) ∧ Touch (fun k => ¬ X k) w w' := by
  obtain ⟨⟨hk0, hk1⟩, ⟨hx0, hx1⟩, ⟨hr0, hr1⟩⟩ := hs
  simp only at hk0 hk1 hx0 hx1 hr0 hr1
  have hT : Touch (fun k => ¬ X k) w (w.alloc (.cells #[.int .u8 k, .int .i64 x, .int .i64 r] 37)) := (Touch.refl _ w).alloc _
  have h1 := h.below ((Below.refl w.heap.size w).alloc (Nat.le_refl _) (.cells #[.int .u8 k, .int .i64 x, .int .i64 r] 37))
  have HT := Lib.hid hT
  simp only [doC]
  by_cases h0 : k = 0
  · subst h0
    simp only [if_true]
    have HC := Lib.hid (decide_tr h1 i hL hg hn x hx0 hx1)
    generalize (decC n es x).2 = es' at *
    generalize (decC n es x).1 = c at *
    clear hT h1
    go_enter Try.func20, Try.ntmps20
    go_wp2_with (go_at_call 18; refine HC.out.mono ?_; rintro e w2 ⟨rfl, h2, h3⟩)
    go_ret
    exact ⟨rfl, h2, HT.out.trans h3 fun _ _ h => h⟩
  · rw [if_neg h0]
    have h0' : (k == 0) = false := by simpa using h0
    by_cases h01 : k = 1
    · subst h01
      simp only [if_true]
      have HC := Lib.hid (assign_tr h1 i hL hg hn x r hx0 hx1)
      generalize (asnC n es x r).2 = es' at *
      generalize (asnC n es x r).1 = c at *
      clear hT h1
      go_enter Try.func20, Try.ntmps20
      go_wp2_with (go_at_call 17; refine HC.out.mono ?_; rintro e w2 ⟨rfl, h2, h3⟩)
      go_ret
      exact ⟨rfl, h2, HT.out.trans h3 fun _ _ h => h⟩
    · rw [if_neg h01]
      have h1' : (k == 1) = false := by simpa using h01
      have HC := Lib.hid (back_tr h1 i hL hg hn x hx0 hx1)
      generalize (backC es x).2 = es' at *
      generalize (backC es x).1 = c at *
      clear hT h1
      go_enter Try.func20, Try.ntmps20
      go_wp2_with (go_at_call 21; refine HC.out.mono ?_; rintro e w2 ⟨rfl, h2, h3⟩)
      go_ret
      exact ⟨rfl, h2, HT.out.trans h3 fun _ _ h => h⟩
end

theorem played_any (n : Nat) (ao : Option Addr) (l : List StepD) (cap b off : Nat) (w0 w : World) (hb : Below w0.heap.size w0 w) (hl : IsSteps w0 w0.heap.size ao b off l) (hn : n ≤ 5000) (hll : l.length ≤ 300) :
    Calls Try.prog 9 #[.int .i64 n, .slice ao l.length cap] w fun e w' => ∃ g, e = .returned (.pointer (some ⟨g, 0, none⟩)) ∧ Trails w0 w' (fun _ => False) [(g, trE n (playE n [] l))] := by
  have h0 : Trails w0 w (fun _ => False) [] := Trails.none hb
  have HN := Lib.hid (new_tr h0 hn)
  clear h0
  go_enter Try.func9, Try.ntmps9
  go_wp2_with (go_at_call 23; refine HN.out.mono ?_; rintro e w1 ⟨g, rfl, h1, hb1⟩)
  go_loopw [7] (fun i wr => ∃ k : Nat, k ≤ l.length ∧ i = .int .i64 k ∧ Trails w0 wr (fun _ => False) [(g, trE n (playE n [] (l.take k)))]) (fun i _ => l.length - (intOf i).toNat)
  case atStart => exact ⟨0, by omega, rfl, h1⟩
  case round =>
    obtain ⟨k, hk, rfl, hT⟩ := hrel
    by_cases hlt : k < l.length
    · have hl2 := hl.below hT.bel
      obtain ⟨rfl, hbB⟩ := hl2.ptr (by omega)
      have hwf := hl2.wf k hlt
      have hck := hl2.kind k hlt
      have hcn := hl2.lit k hlt
      have hcs := hl2.reason k hlt
      have hsu := playE_succ n [] l k hlt
      have hgd := playE_good (n := n) (l.take k) (es := []) trivial
      generalize playE n [] (l.take k) = es at *
      generalize l[k] = s at *
      obtain ⟨kd, x, r⟩ := s
      simp only at hck hcn hcs
      have HD := Lib.hid (do_tr hT 0 rfl hgd hn kd x r hwf)
      generalize (doC n es ⟨kd, x, r⟩).1 = cd at *
      generalize (doC n es ⟨kd, x, r⟩).2 = es' at *
      have HS := Lib.hid hsu
      have hki : (k : Int) < (l.length : Int) := by omega
      clear hsu hwf hl2 hl hT
      go_wp2_with (go_at_call 20; refine HD.out.mono ?_; rintro e w2 ⟨rfl, h2, h3⟩)
      go_roundw
      case rel =>
        refine ⟨k + 1, by omega, by go_num, ?_⟩
        rw [HS.out]
        exact h2
      case measure => simp [intOf]; omega
    · obtain rfl : k = l.length := by omega
      rw [List.take_length] at hT
      go_wp2_with fail
      go_ret
      exact ⟨g, rfl, hT⟩

theorem played_bad (n : Int) (v : Value) (w : World) (hn : n < 0) :
    Calls Try.prog 9 #[.int .i64 n, v] w fun e w' => e = .returned (.pointer none) ∧ w = w' := by
  have HN := Lib.hid (new_bad n w (.inl hn))
  go_enter Try.func9, Try.ntmps9
  go_wp2_with (go_at_call 23; refine HN.out.mono ?_; rintro e w1 ⟨rfl, rfl⟩)
  go_ret
  exact ⟨rfl, rfl⟩

end Go.Proofs.Ytiejdladmoncaaa
