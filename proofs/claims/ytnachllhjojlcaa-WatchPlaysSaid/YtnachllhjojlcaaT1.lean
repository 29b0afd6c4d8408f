/- Contracts of package trail: variable, open. -/
import Derived.Test.YtnachllhjojlcaaRows
import Derived.Test.YtnachllhjojlcaaMem
import Derived.Test.YtnachllhjojlcaaArgs
import Derived.Test.YtnachllhjojlcaaTP
import Derived.Deep.QuietTactic
namespace Go.Proofs.Ytnachllhjojlcaa
open Go.ChangeShapes Go.WideShapes Go.ChangeAt Go.RowKit
set_option maxRecDepth 100000

def Kn.cells (k : Kn) : List Value := [.int .i64 k.value, .int .i64 k.level, .int .i64 k.reason]
def knC (l : List Kn) : List Value := l.flatMap Kn.cells
def inC (l : List Int) : List Value := l.map (Value.int .i64)

/-- A literal's variable among n; -1: it is none. -/
def varN (n : Nat) (lit : Int) : Int := if lit = 0 then -1 else if (if lit < 0 then -(lit + 1) else lit - 1) < n then (if lit < 0 then -(lit + 1) else lit - 1) else -1

/-- The trail lies at g. -/
structure IsT (w : World) (g : Nat) (a b c : Value) (T : TrD) : Prop where
  blk : Blk w g 79 #[a, b, c]
  vars : Own w 82 3 a T.vars.length (knC T.vars)
  lits : Own w 3 1 b T.lits.length (inC T.lits)
  begins : Own w 3 1 c T.begins.length (inC T.begins)

theorem variable_any (g : Nat) (ao : Option Addr) (n cap : Nat) (b c : Value) (lit : Int) (w : World) (hb : Blk w g 79 #[.slice ao n cap, b, c]) (_hn : n ≤ 140737488351232) (h1 : -9223372036854775808 ≤ lit) (h2 : lit ≤ 9223372036854775807) :
    Calls Try.prog 55 #[.pointer (some ⟨g, 0, none⟩), .int .i64 lit] w fun e w' => e = .returned (.int .i64 (varN n lit)) ∧ w = w' := by
  have hc0 := hb.cell 0
  simp at hc0
  unfold varN
  go_enter Try.func55, Try.ntmps55
  by_cases h0 : lit = 0
  · subst h0
    go_wp2_with fail
    go_ret
    exact ⟨rfl, rfl⟩
  · have h0' : (lit == 0) = false := by simpa using h0
    rw [if_neg h0]
    by_cases hneg : lit < 0
    · obtain ⟨z, hw1⟩ : ∃ z, IntKind.i64.wrap (lit - 1) = z := ⟨_, rfl⟩
      have hw2 : IntKind.i64.wrap (lit + 1) = lit + 1 := by rw [IntKind.wrap_i64]; omega
      have hw3 : IntKind.i64.wrap (-(lit + 1)) = -(lit + 1) := by rw [IntKind.wrap_i64]; omega
      simp only [if_pos hneg]
      generalize hv : -(lit + 1) = v at *
      by_cases hlt : v < n
      · have hd : decide ((n : Int) ≤ v) = false := by simp; omega
        rw [if_pos hlt]
        go_wp2_with fail
        go_ret
        exact ⟨rfl, rfl⟩
      · have hd : decide ((n : Int) ≤ v) = true := by simp; omega
        rw [if_neg hlt]
        go_wp2_with fail
        go_ret
        exact ⟨rfl, rfl⟩
    · have hneg' : decide (lit < 0) = false := by simpa using hneg
      have hw1 : IntKind.i64.wrap (lit - 1) = lit - 1 := by rw [IntKind.wrap_i64]; omega
      simp only [if_neg hneg]
      generalize hv : lit - 1 = v at *
      by_cases hlt : v < n
      · have hd : decide ((n : Int) ≤ v) = false := by simp; omega
        rw [if_pos hlt]
        go_wp2_with fail
        go_ret
        exact ⟨rfl, rfl⟩
      · have hd : decide ((n : Int) ≤ v) = true := by simp; omega
        rw [if_neg hlt]
        go_wp2_with fail
        go_ret
        exact ⟨rfl, rfl⟩

end Go.Proofs.Ytnachllhjojlcaa
