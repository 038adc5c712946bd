/- The functions that stand outside. -/
import Derived.Test.YtjbilloofeedgaaFc
import Derived.Test.YtjbilloofeedgaaPp
import Derived.Lib.Join
set_option linter.unusedVariables false
set_option linter.unusedSimpArgs false
/- The functions that stand outside: 'vpath.Parse', 'strings.Join'. -/
namespace Go.Ab
open Go

def encS (s : ByteArray) : List PV := [.c (.string s)]
def strsOf : List (List PV) → Option (List ByteArray)
  | [] => some []
  | [.c (.string n)] :: es => match strsOf es with
    | some l => some (n :: l)
    | none => none
  | _ :: _ => none
@[simp] theorem strsOf_enc : ∀ l : List ByteArray, strsOf (l.map encS) = some l
  | [] => rfl
  | n :: l => by simp [strsOf, encS, strsOf_enc l]
theorem strsOf_eq : ∀ {es : List (List PV)} {l : List ByteArray}, strsOf es = some l → es = l.map encS
  | [], l, h => by
    cases h
    rfl
  | e :: es, l, h => by
    unfold strsOf at h
    split at h
    · rename_i hh
      cases hh
    · rename_i n es' hh
      cases hh
      split at h
      · rename_i l' hl
        cases h
        rw [strsOf_eq hl]
        rfl
      · cases h
    · cases h
/-- What 'vpath.Parse' answers. -/
def parseT (s : ByteArray) : TV := .t [.c (.p (.sl ((Go.Proofs.parseZ s).1.map encS))), .c (.p (.c (.int .i64 (Go.Proofs.parseZ s).2)))]
/-- What 'strings.Join' answers. -/
def joinZ (l : List ByteArray) (sep : ByteArray) : ByteArray := ⟨(Go.Lib.join (l.map (·.data.toList)) sep.data.toList).toArray⟩
def extF : FuncId → Option (List TE → Mem → Option Out)
  | 12 => some fun args m => match args with
    | [.c (.p (.c (.string s)))] => cond (decide (s.size ≤ 9223372036854775807)) (some (.ret (parseT s), m)) none
    | _ => none
  | 43 => some fun args m => match args with
    | [.c (.p (.sl es)), .c (.p (.c (.string sep)))] => (strsOf es).bind fun l => cond (decide (l.length ≤ 140737488355328) && decide ((joinZ l sep).size ≤ 140737488355328)) (some (.ret (mkS (joinZ l sep)), m)) none
    | _ => none
  | 45 => some fun args m => match args with
    | [.c (.p (.sl es))] => (strsOf es).bind fun l => cond (decide (l.length * 16 ≤ 140737488355328)) (some (.ret (.e (.c (.p (.sl es)))), m)) none
    | _ => none
  | _ => none
end Go.Ab
