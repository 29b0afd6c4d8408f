/- shape.May: its plain form; the body of its round. Conditions: as each theorem names them. -/
import Derived.Test.YtadogjnoklabdaaDoorH15
namespace Go.Proofs.YtadogjnoklabdaaDoor
open Go.ChangeShapes Go.WideShapes Go.ChangeAt Go.RowKit Go.Deep Go.Shelf
set_option maxRecDepth 100000
attribute [local go_sem] Oper.semAt_some

def DepD.none (d : DepD) : Bool := d.name.toList.isEmpty && (d.op == 0 && d.zero)
/-- May a part be, at a place? -/
def keyE (wh : Int) (x : KeyD) : Bool :=
  !(decide ((askE x.1).wher < wh)) && (!(x.2.2.2 && !(askE x.1).alone) && (!(decide ((x.2.2.1 : Int) < (askE x.1).least)) && (!(decide ((askE x.1).most < (x.2.2.1 : Int))) && (if x.1 = 1 then depE x.2.1 else x.2.1.none))))
def mayE (r : RichD) (wh : Int) : Int :=
  if wh < 1 ∨ 3 < wh then 1 else if 24 < r.count then 40 else if 8 < r.depth then 21 else if (r.parts false).all (keyE wh) then 0 else 4
theorem results_cell_one {P : Program} {fn : Func} {p : Tmp} {ty : TypeId} (h : fn.results = #[.cell p ty]) (tmps : Array Value) (w : World) (g : Nat) (v : Value) (hp : tmps.getD p undef = .pointer (some ⟨g, 0, none⟩)) (hl : (loadVar ty ⟨g, 0, none⟩).run P w = .ok v w) : (results fn tmps).run P w = .ok v w := by
  have hp' : tmps[p]?.getD undef = .pointer (some ⟨g, 0, none⟩) := by simpa using hp
  simp [results, h, hp', asAddr, hl]
theorem load31 {w : World} {g : Nat} {v : Value} {t : TypeId} (hb : Blk w g t #[v]) : (loadVar 31 ⟨g, 0, none⟩).run Tryd.prog w = .ok v w := by
  have hc : w.cell? ⟨g, 0, none⟩ = some v := hb.cell 0
  have h1 := Tryd.isAgg31
  have h2 := Tryd.sizeOf31
  simp [go_sem, loadVar, h1, h2, hc]
end Go.Proofs.YtadogjnoklabdaaDoor
