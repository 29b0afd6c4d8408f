/- WireNames: what the walk asks of a great make, and the values. -/
import Derived.Test.YtahemhdmlfejlabW18
namespace Go.Proofs.Ytahemhdmlfejlab
open Go.ChangeShapes Go.WideShapes Go.ChangeAt Go.RowKit
set_option maxRecDepth 100000

theorem make_conv (i : TypeInfo) (hi : Try.prog.info? 5 = some i) (hz : i.zero = some (.int .u8 0)) (hs : i.size = 1) (hb : i.bytes = 1) (N : Nat) (hN : N ≤ 16777216) (W : World) : ∃ (M : Array Value) (T : ByteArray), T.size = N ∧
    (Instr.makeSlice 49 (.int .i64 (N : Int)) (.int .i64 (N : Int))).run Try.prog W = .ok (.slice (some ⟨W.heap.size, 0, none⟩) N N) (W.alloc (.cells M 5)) ∧
    (convert 49 9 (.slice (some ⟨W.heap.size, 0, none⟩) N N)).run Try.prog (W.alloc (.cells M 5)) = .ok (.string T) (W.alloc (.cells M 5)) := by
  have h := run_make W 49 5 i (.int .u8 0) Try.underlying49 hi hz .i64 .i64 N N (by omega) (by omega) (by rw [hb]; omega) (by omega)
  rw [Int.toNat_natCast, hs, Nat.mul_one] at h
  have hMl : madeCells (Value.int .u8 0).cells N = (List.replicate N (Value.int .u8 0)).toArray := by
    apply Array.toList_inj.mp
    exact toList_madeCells_one (.int .u8 0) N
  rw [hMl] at h
  refine ⟨_, ⟨(List.replicate N (0 : UInt8)).toArray⟩, by show (List.replicate N (0 : UInt8)).toArray.size = N; simp, h, ?_⟩
  have hc := run_convert_bytes_back (P := Try.prog) (W.alloc (.cells (List.replicate N (Value.int .u8 0)).toArray 5)) 49 9 5 ⟨W.heap.size, 0, none⟩ N (List.replicate N (0 : UInt8)) Try.underlying49 Try.underlying5 Try.underlying9 (fun j hj => by
    have hB : Blk (W.alloc (.cells (List.replicate N (Value.int .u8 0)).toArray 5)) W.heap.size 5 _ := Blk.new _ _ _
    have ha : (⟨W.heap.size, 0, none⟩ : Addr).add j = ⟨W.heap.size, j, none⟩ := by unfold Addr.add; split <;> simp_all
    rw [ha, hB.cell j]
    simp at hj
    simp [hj])
  rwa [List.length_replicate] at hc

theorem big_make (W : World) : ∃ (N : Nat) (M : Array Value) (T : ByteArray), 4194304 < T.size ∧
    (Instr.makeSlice 49 (.int .i64 4194305) (.int .i64 4194305)).run Try.prog W = .ok (.slice (some ⟨W.heap.size, 0, none⟩) N N) (W.alloc (.cells M 5)) ∧
    (convert 49 9 (.slice (some ⟨W.heap.size, 0, none⟩) N N)).run Try.prog (W.alloc (.cells M 5)) = .ok (.string T) (W.alloc (.cells M 5)) := by
  obtain ⟨M, T, h1, h2, h3⟩ := make_conv _ rfl rfl rfl rfl 4194305 (by decide) W
  exact ⟨_, M, T, by omega, h2, h3⟩

end Go.Proofs.Ytahemhdmlfejlab
