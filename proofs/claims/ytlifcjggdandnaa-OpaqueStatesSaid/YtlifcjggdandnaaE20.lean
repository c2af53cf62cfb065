/- A program that is run over a view: what is needed ends it, and is told. -/
import Derived.Test.YtlifcjggdandnaaE19
import Derived.Recover
import Derived.KernelRfl
namespace Go.Ideal
open Go.RowKit

/-- The code of the runner, and of what it defers. -/
def viewBody (tV tF tI : TypeId) (D : FuncId) : Code :=
  .seq (.region 0 #[{ dst := some 2, op := .box tV (.tmp 0), type := 0, pos := "view.go:59", after := #[], guard := none }, { dst := some 4, op := .alloc tI, type := 0, pos := "view.go:59", after := #[], guard := none }] false)
  (.seq (.region 1 #[{ dst := some 5, op := .makeFunc (.func D) #[] #[.tmp 2, .tmp 4], type := 1, pos := "view.go:60", after := #[], guard := none },
      { dst := none, op := .defer { callee := .value (.tmp 5), args := #[], argTypes := #[] }, type := 0, pos := "view.go:60", after := #[{ on := 0, ground := .data }], guard := none }] false)
  (.seq (.region 2 #[{ dst := some 6, op := .move (.tmp 1), type := tF, pos := "view.go:61", after := #[], guard := none },
      { dst := some 7, op := .load tV (.tmp 2), type := tV, pos := "view.go:61", after := #[], guard := none },
      { dst := some 8, op := .call { callee := .value (.tmp 6), args := #[.tmp 7], argTypes := #[tV] }, type := 0, pos := "view.go:61", after := #[{ on := 0, ground := .data }, { on := 1, ground := .data }], guard := none }] false)
  (.seq (.region 3 #[{ dst := none, op := .store tI (.tmp 4) (.const (.int .i64 (-1))), type := 0, pos := "view.go:62", after := #[], guard := none }] false) .ret)))

def vOp0 (tV : TypeId) : Oper := { dst := some 2, op := .load tV (.tmp 0), type := tV, pos := "view.go:60", after := #[], guard := none }
def vOp1 (tE : TypeId) : Oper := { dst := some 3, op := .call { callee := .builtin .recover, args := #[], argTypes := #[] }, type := tE, pos := "view.go:60", after := #[], guard := none }
def vOp2 (tV tI tE : TypeId) (O : FuncId) : Oper :=
  { dst := some 4, op := .call { callee := .value (.func O), args := #[.tmp 2, .tmp 3], argTypes := #[tV, tE] }, type := tI, pos := "view.go:60", after := #[{ on := 0, ground := .data }, { on := 1, ground := .data }, { on := 1, ground := .chain }], guard := none }
def vOp3 (tI : TypeId) : Oper :=
  { dst := none, op := .store tI (.tmp 1) (.tmp 4), type := 0, pos := "view.go:60", after := #[{ on := 2, ground := .data }, { on := 2, ground := .chain }, { on := 0, ground := .phase }, { on := 1, ground := .phase }, { on := 2, ground := .phase }], guard := none }
def viewDeferOps (tV tI tE : TypeId) (O : FuncId) : Array Oper := #[vOp0 tV, vOp1 tE, vOp2 tV tI tE O, vOp3 tI]

structure ViewFns (P : Program) (R D O : FuncId) (tV tF tI tE : TypeId) where
  fnR : Func
  fnD : Func
  hR : P.funcs[R]? = some fnR
  bR : fnR.body = some (viewBody tV tF tI D)
  nR : fnR.ntmps = 9
  rR : fnR.results = #[.cell 4 tI]
  hD : P.funcs[D]? = some fnD
  bD : fnD.body = some (.region 0 (viewDeferOps tV tI tE O) true)
  nD : fnD.ntmps = 5
  rD : fnD.results = #[]
  cD : icallable P D = true
  cO : icallable P O = true
  mixed : P.follows .mixedOrders = true
  vI : aggT P tI = some false
  zI : izero P tI = some [.int .i64 0]
  sI : tsize P tI = some 1
  vV : aggT P tV = some false

def viewTail (w0 : World) (O : FuncId) (cl : Cl) (r : Nat) (v p : Value) (h2 : Heap) : Option (IRet × Heap) :=
  match cl O [v, p] h2 with
  | some (.ret x, h3) => if leaf x then (wr1 h3 ⟨r + 1, 0, some 0⟩ x).bind fun h4 => (rd w0 h4 ⟨r + 1, 0, some 0⟩).map fun y => (.ret y, h4) else none
  | _ => none

def viewRun (P : Program) (w0 : World) (tV tI : TypeId) (O : FuncId) : Cl → List Value → Heap → Option (IRet × Heap) := fun cl args h =>
  match args with
  | [v, pf] =>
    if leaf v then
      match icall P pf [v] with
      | some (.call g xs) => match cl g xs (h ++ [.row [v] tV 0] ++ [.row [.int .i64 0] tI 0]) with
        | some (.ret _, h2) => (wr1 h2 ⟨h.length + 1, 0, some 0⟩ (.int .i64 (-1))).bind fun h3 => (rd w0 h3 ⟨h.length, 0, some 0⟩).bind fun v2 => viewTail w0 O cl h.length v2 .nilIface h3
        | some (.pan p, h2) => (rd w0 h2 ⟨h.length, 0, some 0⟩).bind fun v2 => viewTail w0 O cl h.length v2 p h2
        | none => none
      | _ => none
    else none
  | _ => none

section
variable {P : Program} {w0 w : World} {h h' h2 : Heap} {μ μ' μ2 : Mp} {B : Nat}

theorem linear_deferOps (tV tI tE : TypeId) (O : FuncId) (t : Nat) :
    Region.schedule true (viewDeferOps tV tI tE O) t = [0, 1, 2, 3] ∨ Region.schedule true (viewDeferOps tV tI tE O) t = [1, 0, 2, 3] := by
  have r0 : Region.ready .any (viewDeferOps tV tI tE O) #[false, false, false, false] = [0, 1] := by kernel_rfl
  have r1 : Region.ready .any (viewDeferOps tV tI tE O) #[true, false, false, false] = [1] := by kernel_rfl
  have r2 : Region.ready .any (viewDeferOps tV tI tE O) #[false, true, false, false] = [0] := by kernel_rfl
  have r3 : Region.ready .any (viewDeferOps tV tI tE O) #[true, true, false, false] = [2] := by kernel_rfl
  have r4 : Region.ready .any (viewDeferOps tV tI tE O) #[true, true, true, false] = [3] := by kernel_rfl
  have step : ∀ (fuel t : Nat) (listed : Array Bool) (acc : List Nat), Region.linearise.go .any (viewDeferOps tV tI tE O) (fuel + 1) t listed acc =
      (match (Region.ready .any (viewDeferOps tV tI tE O) listed)[t % (Region.ready .any (viewDeferOps tV tI tE O) listed).length]? with
      | some i => Region.linearise.go .any (viewDeferOps tV tI tE O) fuel (t / (Region.ready .any (viewDeferOps tV tI tE O) listed).length) (listed.setIfInBounds i true) (i :: acc)
      | none => acc.reverse) := fun _ _ _ _ => rfl
  show Region.linearise.go .any (viewDeferOps tV tI tE O) (3 + 1) t #[false, false, false, false] [] = _ ∨ Region.linearise.go .any (viewDeferOps tV tI tE O) (3 + 1) t #[false, false, false, false] [] = _
  rw [step, r0]
  have h2 : t % 2 = 0 ∨ t % 2 = 1 := by omega
  rcases h2 with h2 | h2
  · left
    simp only [List.length_cons, List.length_nil, Nat.reduceAdd, h2, List.getElem?_cons_zero]
    show Region.linearise.go .any (viewDeferOps tV tI tE O) (2 + 1) (t / 2) #[true, false, false, false] [0] = _
    rw [step, r1]
    simp only [List.length_cons, List.length_nil, Nat.reduceAdd, Nat.mod_one, List.getElem?_cons_zero]
    show Region.linearise.go .any (viewDeferOps tV tI tE O) (1 + 1) (t / 2 / 1) #[true, true, false, false] [1, 0] = _
    rw [step, r3]
    simp only [List.length_cons, List.length_nil, Nat.reduceAdd, Nat.mod_one, List.getElem?_cons_zero]
    show Region.linearise.go .any (viewDeferOps tV tI tE O) (0 + 1) (t / 2 / 1 / 1) #[true, true, true, false] [2, 1, 0] = _
    rw [step, r4]
    simp only [List.length_cons, List.length_nil, Nat.reduceAdd, Nat.mod_one, List.getElem?_cons_zero]
    rfl
  · right
    simp only [List.length_cons, List.length_nil, Nat.reduceAdd, h2, List.getElem?_cons_succ, List.getElem?_cons_zero]
    show Region.linearise.go .any (viewDeferOps tV tI tE O) (2 + 1) (t / 2) #[false, true, false, false] [1] = _
    rw [step, r2]
    simp only [List.length_cons, List.length_nil, Nat.reduceAdd, Nat.mod_one, List.getElem?_cons_zero]
    show Region.linearise.go .any (viewDeferOps tV tI tE O) (1 + 1) (t / 2 / 1) #[true, true, false, false] [0, 1] = _
    rw [step, r3]
    simp only [List.length_cons, List.length_nil, Nat.reduceAdd, Nat.mod_one, List.getElem?_cons_zero]
    show Region.linearise.go .any (viewDeferOps tV tI tE O) (0 + 1) (t / 2 / 1 / 1) #[true, true, true, false] [2, 0, 1] = _
    rw [step, r4]
    simp only [List.length_cons, List.length_nil, Nat.reduceAdd, Nat.mod_one, List.getElem?_cons_zero]
    rfl

end
end Go.Ideal
