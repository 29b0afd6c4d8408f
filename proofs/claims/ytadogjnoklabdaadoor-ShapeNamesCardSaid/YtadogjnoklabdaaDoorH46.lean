/- ShapeNames' table: its operations as data; each keeps the invariant. Conditions: as each theorem names them. -/
import Derived.Test.YtadogjnoklabdaaDoorH45
namespace Go.Proofs.YtadogjnoklabdaaDoor
open Go.ChangeShapes Go.WideShapes Go.ChangeAt Go.RowKit Go.Deep
set_option maxRecDepth 100000

abbrev badR : RichD := listR 1 ⟨oneS 97, 5, 0, ⟨#[]⟩, ⟨#[]⟩⟩ []
abbrev withR' : RichD := listR 1 (dN (oneS 97)) [bR]
abbrev namedR : RichD := listR 3 (dN (oneS 120)) [aR, bR]
inductive OD
  | none
  | zero (k : Int)
  | ld (p : Nat) (r : RichD)
  | row (d : Nat) (m : Int) (r : RichD)
  | bs1 (d0 : Nat) (r0 : RichD)
  | bs2 (d0 d1 : Nat) (r0 r1 : RichD)
  | bs3 (d0 d1 d2 : Nat) (r0 r1 r2 : RichD)
  | bs4 (d0 d1 d2 d3 : Nat) (r0 r1 r2 r3 : RichD)
  | cl (k : Int) (d : Nat) (rs : List RichD)
  | tab
  | len
  | nul
inductive Sp
  | rich (r : RichD)
  | args (rs : List RichD)
  | row (r : RichD) (m : Int)
  | table
  | num (n : Nat)
abbrev tabD : List Nat := [1, 3, 5, 7, 9, 11, 13, 19, 24, 28, 32, 38, 45, 50, 56, 60, 66, 70, 75, 81, 85, 96, 107, 115, 126, 131]
def rowT (j : Nat) : RichD × Int := namesT.getD j (.nil, 0)
def enT (S : Nat → Value) (k : Nat) : List Value := catN (fun j => richCs (rowT j).1 (S j) ++ [.int .u8 (rowT j).2]) k
def OD.op : OD → Op
  | .none => .build 28 #[]
  | .zero k => .build 28 #[(0, .const (.int .u8 k))]
  | .ld p _ => .load 28 (.tmp p)
  | .row d m _ => .build 44 #[(0, .tmp (38 + d)), (1, .const (.int .u8 m))]
  | .bs1 d0 _ => .buildSlice 26 1 #[(0, .tmp (38 + d0))]
  | .bs2 d0 d1 _ _ => .buildSlice 26 2 #[(0, .tmp (38 + d0)), (1, .tmp (38 + d1))]
  | .bs3 d0 d1 d2 _ _ _ => .buildSlice 26 3 #[(0, .tmp (38 + d0)), (1, .tmp (38 + d1)), (2, .tmp (38 + d2))]
  | .bs4 d0 d1 d2 d3 _ _ _ _ => .buildSlice 26 4 #[(0, .tmp (38 + d0)), (1, .tmp (38 + d1)), (2, .tmp (38 + d2)), (3, .tmp (38 + d3))]
  | .cl k d _ => .call { callee := .value (.func 14), args := #[.const (.int .u8 k), .tmp (38 + d)], argTypes := #[5, 26] }
  | .tab => .buildSlice 45 26 #[(0, .tmp (38 + 1)), (1, .tmp (38 + 3)), (2, .tmp (38 + 5)), (3, .tmp (38 + 7)), (4, .tmp (38 + 9)), (5, .tmp (38 + 11)), (6, .tmp (38 + 13)), (7, .tmp (38 + 19)), (8, .tmp (38 + 24)), (9, .tmp (38 + 28)), (10, .tmp (38 + 32)), (11, .tmp (38 + 38)), (12, .tmp (38 + 45)), (13, .tmp (38 + 50)), (14, .tmp (38 + 56)), (15, .tmp (38 + 60)), (16, .tmp (38 + 66)), (17, .tmp (38 + 70)), (18, .tmp (38 + 75)), (19, .tmp (38 + 81)), (20, .tmp (38 + 85)), (21, .tmp (38 + 96)), (22, .tmp (38 + 107)), (23, .tmp (38 + 115)), (24, .tmp (38 + 126)), (25, .tmp (38 + 131))]
  | .len => .call { callee := .builtin .len, args := #[.tmp (38 + 132)], argTypes := #[45] }
  | .nul => .move (.const (.int .i64 0))
def OD.deps : OD → List Nat
  | .none | .zero _ | .ld _ _ | .nul => []
  | .row d _ _ => [d]
  | .bs1 d0 _ => [d0]
  | .bs2 d0 d1 _ _ => [d0, d1]
  | .bs3 d0 d1 d2 _ _ _ => [d0, d1, d2]
  | .bs4 d0 d1 d2 d3 _ _ _ _ => [d0, d1, d2, d3]
  | .cl _ d _ => [d]
  | .tab => tabD
  | .len => [132]
def OD.sp : OD → Sp
  | .none => .rich (kR 0 [])
  | .zero k => .rich (kR k [])
  | .ld _ r => .rich r
  | .row _ m r => .row r m
  | .bs1 _ r0 => .args [r0]
  | .bs2 _ _ r0 r1 => .args [r0, r1]
  | .bs3 _ _ _ r0 r1 r2 => .args [r0, r1, r2]
  | .bs4 _ _ _ _ r0 r1 r2 r3 => .args [r0, r1, r2, r3]
  | .cl k _ rs => .rich (kR k rs)
  | .tab => .table
  | .len => .num 26
  | .nul => .num 0
def TabAt (W : World) (q : Nat) : Prop := ∃ S : Nat → Value, Blk W q 44 (enT S 26).toArray ∧ ∀ j, j < 26 → IsArgs W (rowT j).1 (S j)
def Sp.ok (W : World) : Sp → Value → Prop
  | .rich r, v => ∃ s, v = r.val s ∧ IsArgs W r s
  | .args rs, v => IsArgs W (kR 0 rs) v
  | .row r m, v => ∃ s, v = rowV r s m ∧ IsArgs W r s
  | .table, v => ∃ q, v = .slice (some ⟨q, 0, none⟩) 26 26 ∧ TabAt W q
  | .num n, v => v = .int .i64 (n : Int)
theorem Sp.ok_below {W W' : World} {x : Sp} {v : Value} (h : x.ok W v) (hb : Below W.heap.size W W') : x.ok W' v := by
  cases x with
  | rich r => obtain ⟨s, e, h⟩ := h; exact ⟨s, e, h.kept hb⟩
  | args rs => exact IsArgs.kept h hb
  | row r m => obtain ⟨s, e, h⟩ := h; exact ⟨s, e, h.kept hb⟩
  | table => obtain ⟨q, e, S, h1, h2⟩ := h; exact ⟨q, e, S, h1.below hb h1.lt, fun j hj => (h2 j hj).kept hb⟩
  | num n => exact h
def boxT : Nat → Option RichD
  | 1 => some aR | 2 => some bR | 3 => some cR | 4 => some badR | 5 => some withR' | 6 => some namedR | _ => none
def ods10 : List OD := [.none, .row 0 0 (kR 0 []), .zero 8, .row 2 0 (kR 8 []), .zero 255, .row 4 0 (kR 255 []), .zero 1, .row 6 0 (kR 1 []), .ld 4 (badR), .row 8 0 (badR), .ld 5 (withR'), .row 10 0 (withR'), .ld 6 (namedR), .row 12 0 (namedR), .ld 1 (aR), .ld 2 (bR), .ld 3 (cR), .bs3 14 15 16 (aR) (bR) (cR), .cl 2 17 [aR, bR, cR], .row 18 3 (kR 2 [aR, bR, cR]), .ld 1 (aR), .ld 2 (bR), .bs2 20 21 (aR) (bR), .cl 3 22 [aR, bR], .row 23 3 (kR 3 [aR, bR]), .ld 1 (aR), .bs1 25 (aR), .cl 3 26 [aR], .row 27 0 (kR 3 [aR]), .ld 1 (aR), .bs1 29 (aR), .cl 4 30 [aR], .row 31 0 (kR 4 [aR]), .ld 1 (aR), .ld 2 (bR), .ld 3 (cR), .bs3 33 34 35 (aR) (bR) (cR), .cl 4 36 [aR, bR, cR], .row 37 1 (kR 4 [aR, bR, cR]), .ld 1 (aR), .ld 2 (bR), .ld 3 (cR), .ld 1 (aR), .bs4 39 40 41 42 (aR) (bR) (cR) (aR), .cl 4 43 [aR, bR, cR, aR], .row 44 0 (kR 4 [aR, bR, cR, aR]), .ld 1 (aR), .ld 2 (bR), .bs2 46 47 (aR) (bR), .cl 5 48 [aR, bR], .row 49 2 (kR 5 [aR, bR]), .ld 1 (aR), .ld 2 (bR), .ld 3 (cR), .bs3 51 52 53 (aR) (bR) (cR), .cl 5 54 [aR, bR, cR], .row 55 2 (kR 5 [aR, bR, cR]), .ld 1 (aR), .bs1 57 (aR), .cl 5 58 [aR], .row 59 0 (kR 5 [aR]), .ld 1 (aR), .ld 2 (bR), .ld 3 (cR), .bs3 61 62 63 (aR) (bR) (cR), .cl 6 64 [aR, bR, cR], .row 65 3 (kR 6 [aR, bR, cR]), .ld 1 (aR), .bs1 67 (aR), .cl 6 68 [aR], .row 69 0 (kR 6 [aR]), .ld 1 (aR), .ld 2 (bR), .bs2 71 72 (aR) (bR), .cl 7 73 [aR, bR], .row 74 3 (kR 7 [aR, bR]), .ld 1 (aR), .ld 2 (bR), .ld 3 (cR), .bs3 76 77 78 (aR) (bR) (cR), .cl 7 79 [aR, bR, cR], .row 80 0 (kR 7 [aR, bR, cR]), .ld 1 (aR), .bs1 82 (aR), .cl 7 83 [aR], .row 84 0 (kR 7 [aR]), .ld 1 (aR), .ld 2 (bR), .bs2 86 87 (aR) (bR), .cl 3 88 [aR, bR], .ld 1 (aR), .ld 3 (cR), .bs2 90 91 (aR) (cR), .cl 7 92 [aR, cR], .bs2 89 93 (kR 3 [aR, bR]) (kR 7 [aR, cR]), .cl 6 94 [kR 3 [aR, bR], kR 7 [aR, cR]], .row 95 3 (kR 6 [kR 3 [aR, bR], kR 7 [aR, cR]]), .ld 1 (aR), .ld 2 (bR), .ld 1 (aR), .ld 3 (cR), .bs2 99 100 (aR) (cR), .cl 4 101 [aR, cR], .bs2 98 102 (bR) (kR 4 [aR, cR]), .cl 2 103 [bR, kR 4 [aR, cR]], .bs2 97 104 (aR) (kR 2 [bR, kR 4 [aR, cR]]), .cl 7 105 [aR, kR 2 [bR, kR 4 [aR, cR]]], .row 106 0 (kR 7 [aR, kR 2 [bR, kR 4 [aR, cR]]]), .ld 1 (aR), .ld 2 (bR), .ld 3 (cR), .bs2 109 110 (bR) (cR), .cl 4 111 [bR, cR], .bs2 108 112 (aR) (kR 4 [bR, cR]), .cl 2 113 [aR, kR 4 [bR, cR]], .row 114 1 (kR 2 [aR, kR 4 [bR, cR]]), .ld 1 (aR), .ld 2 (bR), .bs2 116 117 (aR) (bR), .cl 6 118 [aR, bR], .ld 1 (aR), .ld 2 (bR), .bs2 120 121 (aR) (bR), .cl 5 122 [aR, bR], .bs2 119 123 (kR 6 [aR, bR]) (kR 5 [aR, bR]), .cl 3 124 [kR 6 [aR, bR], kR 5 [aR, bR]], .row 125 2 (kR 3 [kR 6 [aR, bR], kR 5 [aR, bR]]), .ld 1 (aR), .none, .bs2 127 128 (aR) (kR 0 []), .cl 2 129 [aR, kR 0 []], .row 130 0 (kR 2 [aR, kR 0 []]), .tab, .len, .nul]
def OD.wf : OD → Prop
  | .none | .nul => True
  | .zero k => 0 ≤ k ∧ k < 256
  | .ld p r => boxT p = some r
  | .row d _ r => (ods10[d]?).map OD.sp = some (.rich r)
  | .bs1 d0 r0 => (ods10[d0]?).map OD.sp = some (.rich r0)
  | .bs2 d0 d1 r0 r1 => (ods10[d0]?).map OD.sp = some (.rich r0) ∧ (ods10[d1]?).map OD.sp = some (.rich r1)
  | .bs3 d0 d1 d2 r0 r1 r2 => (ods10[d0]?).map OD.sp = some (.rich r0) ∧ (ods10[d1]?).map OD.sp = some (.rich r1) ∧ (ods10[d2]?).map OD.sp = some (.rich r2)
  | .bs4 d0 d1 d2 d3 r0 r1 r2 r3 => (ods10[d0]?).map OD.sp = some (.rich r0) ∧ (ods10[d1]?).map OD.sp = some (.rich r1) ∧ (ods10[d2]?).map OD.sp = some (.rich r2) ∧ (ods10[d3]?).map OD.sp = some (.rich r3)
  | .cl k d rs => (ods10[d]?).map OD.sp = some (.args rs) ∧ 0 ≤ k ∧ k < 256
  | .tab => ∀ j, j < 26 → (ods10[tabD.getD j 0]?).map OD.sp = some (.row (rowT j).1 (rowT j).2)
  | .len => (ods10[132]?).map OD.sp = some .table
theorem below26 {p : Nat → Prop} (h0 : p 0) (h1 : p 1) (h2 : p 2) (h3 : p 3) (h4 : p 4) (h5 : p 5) (h6 : p 6) (h7 : p 7) (h8 : p 8) (h9 : p 9) (h10 : p 10) (h11 : p 11) (h12 : p 12) (h13 : p 13) (h14 : p 14) (h15 : p 15) (h16 : p 16) (h17 : p 17) (h18 : p 18) (h19 : p 19) (h20 : p 20) (h21 : p 21) (h22 : p 22) (h23 : p 23) (h24 : p 24) (h25 : p 25) : ∀ j, j < 26 → p j := fun j hj => by
  match j, hj with
  | 0, _ => exact h0
  | 1, _ => exact h1
  | 2, _ => exact h2
  | 3, _ => exact h3
  | 4, _ => exact h4
  | 5, _ => exact h5
  | 6, _ => exact h6
  | 7, _ => exact h7
  | 8, _ => exact h8
  | 9, _ => exact h9
  | 10, _ => exact h10
  | 11, _ => exact h11
  | 12, _ => exact h12
  | 13, _ => exact h13
  | 14, _ => exact h14
  | 15, _ => exact h15
  | 16, _ => exact h16
  | 17, _ => exact h17
  | 18, _ => exact h18
  | 19, _ => exact h19
  | 20, _ => exact h20
  | 21, _ => exact h21
  | 22, _ => exact h22
  | 23, _ => exact h23
  | 24, _ => exact h24
  | 25, _ => exact h25
  | n + 26, h => exact absurd h (by omega)
theorem wf_all : ∀ d ∈ ods10, d.wf := by
  unfold ods10
  repeat' (refine List.forall_mem_cons.2 ⟨?_, ?_⟩)
  all_goals first
    | exact List.forall_mem_nil _
    | exact trivial
    | exact rfl
    | exact ⟨rfl, rfl⟩
    | exact ⟨rfl, rfl, rfl⟩
    | exact ⟨rfl, rfl, rfl, rfl⟩
    | exact ⟨rfl, by decide, by decide⟩
    | exact (show (0 : Int) ≤ _ ∧ _ from ⟨by decide, by decide⟩)
    | exact below26 rfl rfl rfl rfl rfl rfl rfl rfl rfl rfl rfl rfl rfl rfl rfl rfl rfl rfl rfl rfl rfl rfl rfl rfl rfl rfl
    | fail
end Go.Proofs.YtadogjnoklabdaaDoor
