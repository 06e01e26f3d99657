/-
  A region of more than 64 operations stands as an append of lists: written out for the walk.
-/
import Derived.Test.YtdnioigcgggdbaaGreatDoorMaa
set_option linter.unusedVariables false
set_option linter.unusedSimpArgs false
namespace Go.Proofs.YtdnioigcgggdbaaGreatDoor
open Go.RowKit

/-- a region of more than 64 operations: its list stands as an append: written out. -/
partial def flatList (e : Lean.Expr) (tail : Lean.Expr → Lean.Expr) : Lean.Expr → Lean.Expr := fun r =>
  if e.isAppOfArity ``List.append 3 then flatList (e.getArg! 1) (flatList (e.getArg! 2) tail) r
  else if e.isAppOfArity ``List.cons 3 then Lean.mkApp3 e.getAppFn (e.getArg! 0) (e.getArg! 1) (flatList (e.getArg! 2) tail r)
  else tail r
open Lean Elab Tactic in
elab "go_flat" : tactic => withMainContext do
  let g ← getMainGoal
  let t := (← instantiateMVars (← g.getType)).consumeMData
  unless t.isAppOfArity ``wpList 6 do throwError "go_flat: no list of operations"
  let nil := mkApp (mkConst ``List.nil [Level.zero]) (mkConst ``Oper)
  let l := t.getArg! 3
  let o := t.getArg! 1
  let lapp := l.isAppOf ``List.append
  let oapp := o.isAppOfArity ``List.toArray 2 && (o.getArg! 1).isAppOf ``List.append
  unless lapp || oapp do throwError "go_flat: no append"
  let l' := if lapp then flatList l (fun r => r) nil else l
  let o' := if oapp then mkAppN o.getAppFn (o.getAppArgs.set! 1 (flatList (o.getArg! 1) (fun r => r) nil)) else o
  let g' ← g.replaceTargetDefEq (mkAppN t.getAppFn ((t.getAppArgs.set! 3 l').set! 1 o'))
  replaceMainGoal [g']
macro_rules | `(tactic| go_values) => `(tactic| go_flat)
end Go.Proofs.YtdnioigcgggdbaaGreatDoor
