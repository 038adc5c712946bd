/- From a row to the arguments of a run. -/
import Derived.Test.YtjbilloofeedgaaPr
import Derived.Test.YtjbilloofeedgaaPs
import Derived.Test.YtjbilloofeedgaaRows
import Derived.WalkKit
import Derived.ProofKit
import Derived.OpenShut
import Derived.SizedLaws
set_option linter.unusedVariables false
set_option linter.unusedSimpArgs false
/- From what a law's row hands over to the arguments of its run. -/
namespace Go.Ab
open Go

section
variable {H : Type}
theorem fits_one {k : IntKind} {d : DataW H} {pvs : List PV} (h : DR (.int k) d pvs) : ∃ n, Has k n ∧ pvs = [.c (.int k n)] ∧ d = .lit (.int k n) := by
  cases h with
  | int k n h => exact ⟨n, h, rfl, rfl⟩
theorem fits_bool {d : DataW H} {pvs : List PV} (h : DR .bool d pvs) : ∃ b, pvs = [.c (.bool b)] ∧ d = .lit (.bool b) := by
  cases h with
  | bool b => exact ⟨b, rfl, rfl⟩
theorem fits_str {d : DataW H} {pvs : List PV} (h : DR .str d pvs) : ∃ s : ByteArray, s.size ≤ maxLen ∧ pvs = [.c (.string s)] ∧ d = .lit (.string s.data.toList) := by
  cases h with
  | str s h => exact ⟨s, h, rfl, rfl⟩
/-- A slice's elements, each as it is. -/
theorem fits_sl {α : Type} {enc : α → List PV} {sh : Sh} (hex : ∀ (d : DataW H) pvs, DR sh d pvs → ∃ x, pvs = enc x) {d : DataW H} {pvs : List PV} (h : DR (.sl sh) d pvs) :
    ∃ l : List α, pvs = [.sl (l.map enc)] ∧ (d = .nil ∧ l.length = 0 ∨ ∃ ds sp, d = .slice ds sp ∧ ds.length = l.length) := by
  cases h with
  | none => exact ⟨[], rfl, .inl ⟨rfl, rfl⟩⟩
  | sl _ ds sp es hn hm h =>
    have : ∀ (es : List (List PV)) (ds : List (DataW H)), ds.length = es.length → (∀ (i : Nat) d x, ds[i]? = some d → es[i]? = some x → DR sh d x) → ∃ l : List α, es = l.map enc := by
      intro es
      induction es with
      | nil => exact fun _ _ _ => ⟨[], rfl⟩
      | cons e es ih =>
        intro ds hn h
        cases ds with
        | nil => simp at hn
        | cons d ds =>
          obtain ⟨x, hx⟩ := hex d e (h 0 d e rfl rfl)
          obtain ⟨l, hl⟩ := ih ds (by simpa using hn) fun i d x hd hx => h (i + 1) d x (by simpa using hd) (by simpa using hx)
          exact ⟨x :: l, by simp [hx, hl]⟩
    obtain ⟨l, rfl⟩ := this es ds hn h
    exact ⟨l, rfl, .inr ⟨ds, sp, rfl, by simpa using hn⟩⟩
/-- How long it may be. -/
theorem len_of {P : Program} {ts : List TypeId} {ds : List (DataW H)} (hsz : (DataW.weightsEach P ts ds).all (· ≤ reachBytes) = true) {j : Nat} {t e : TypeId} (ht : ts[j]? = some t) (hu : P.underlying t = some (.slice e)) {d : DataW H} (hd : ds[j]? = some d) {n : Nat}
    (h : d = .nil ∧ n = 0 ∨ ∃ es sp, d = .slice es sp ∧ es.length = n) : n * P.bytesOf e ≤ reachBytes := by
  rcases h with ⟨_, rfl⟩ | ⟨es, sp, rfl, rfl⟩
  · simp
  · refine Nat.le_trans (Nat.mul_le_mul_right _ (Nat.le_add_right es.length sp.length)) (sized_slice hsz ht hd hu)
end
theorem fit : Fit E.P where
  mixed := by kernel_rfl
  name := by
    have h : (Go.Proofs.Try.prog.funcs.toList.all fun fn => fn.body.isNone || !(fn.name == "runtime.NumGoroutine")) = true := by kernel_rfl
    intro g fn hg hb
    have hg' : Go.Proofs.Try.prog.funcs[g]? = some fn := hg
    have := List.all_eq_true.1 h fn (List.mem_of_getElem? (by simpa using hg'))
    cases hn : fn.body with
    | none => rw [hn] at hb; cases hb
    | some c => simpa [hn] using this
theorem ext_ok : ∀ g f args m out, E.ext g = some f → f args m = some out → CallsOk E.P g args m out := fun g f args m out hf h => extF_ok g f args m out hf h
theorem laid : laidOutB Go.Proofs.Try.prog = true := by kernel_rfl
end Go.Ab
