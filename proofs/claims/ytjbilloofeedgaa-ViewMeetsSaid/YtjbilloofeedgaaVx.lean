/- The function that stands outside. -/
import Derived.Test.YtjbilloofeedgaaFc
set_option linter.unusedVariables false
set_option linter.unusedSimpArgs false
/- What 'view.Reached' answers, as a plain function; the functions that stand outside. -/
namespace Go.Ab
open Go

def intsOf : List (List PV) → Option (List Int)
  | [] => some []
  | [.c (.int .i64 n)] :: es => match intsOf es with
    | some l => some (n :: l)
    | none => none
  | _ :: _ => none
def encI (n : Int) : List PV := [.c (.int .i64 n)]
@[simp] theorem intsOf_enc : ∀ l : List Int, intsOf (l.map encI) = some l
  | [] => rfl
  | n :: l => by simp [intsOf, encI, intsOf_enc l]
/-- The greatest number that most have reached. -/
def reachedZ (l : List Int) : Int := (l.mergeSort fun x y => decide (x ≤ y)).getD (l.length - (l.length / 2 + 1)) 0
def reachBytes' : Nat := 140737488351232
def extF : FuncId → Option (List TE → Mem → Option Out)
  | 37 => some fun args m => match args with
    | [.c (.p (.sl es))] => (intsOf es).bind fun l => cond (decide (l.length * 8 ≤ reachBytes')) (some (.ret (mkI .i64 (reachedZ l)), m)) none
    | _ => none
  | _ => none
end Go.Ab
