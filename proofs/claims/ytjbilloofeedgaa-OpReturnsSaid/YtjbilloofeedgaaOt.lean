/- From a row to the arguments of a run. -/
import Derived.Test.YtjbilloofeedgaaOr
import Derived.Test.YtjbilloofeedgaaPs
import Derived.Test.YtjbilloofeedgaaRows
import Derived.WalkKit
import Derived.ProofKit
import Derived.OpenShut
import Derived.SizedLaws
set_option linter.unusedVariables false
set_option linter.unusedSimpArgs false
/- From a row to the arguments of the results' laws. -/
namespace Go.Ab
open Go
section
variable {H : Type}
theorem fits_one {k : IntKind} {d : DataW H} {pvs : List PV} (h : DR (.int k) d pvs) : ∃ n, Has k n ∧ pvs = [.c (.int k n)] ∧ d = .lit (.int k n) := by
  cases h with
  | int k n h => exact ⟨n, h, rfl, rfl⟩
theorem fits_bool {d : DataW H} {pvs : List PV} (h : DR .bool d pvs) : ∃ b, pvs = [.c (.bool b)] ∧ d = .lit (.bool b) := by
  cases h with
  | bool b => exact ⟨b, rfl, rfl⟩
theorem fits_str {d : DataW H} {pvs : List PV} (h : DR .str d pvs) : ∃ s : ByteArray, s.size ≤ maxLen ∧ pvs = [.c (.string s)] ∧ d = .lit (.string s.data.toList) := by
  cases h with
  | str s h => exact ⟨s, h, rfl, rfl⟩
/-- A slice's elements, each as it is. -/
theorem fits_sl {α : Type} {enc : α → List PV} {ok : α → Prop} {sh : Sh} (hex : ∀ (d : DataW H) pvs, DR sh d pvs → ∃ x, pvs = enc x ∧ ok x) {d : DataW H} {pvs : List PV} (h : DR (.sl sh) d pvs) :
    ∃ l : List α, pvs = [.sl (l.map enc)] ∧ (∀ x ∈ l, ok x) ∧ l.length ≤ maxLen ∧ (d = .nil ∧ l.length = 0 ∨ ∃ ds sp, d = .slice ds sp ∧ ds.length = l.length) := by
  cases h with
  | none => exact ⟨[], rfl, by simp, by simp, .inl ⟨rfl, rfl⟩⟩
  | sl _ ds sp es hn hm h =>
    have : ∀ (es : List (List PV)) (ds : List (DataW H)), ds.length = es.length → (∀ (i : Nat) d x, ds[i]? = some d → es[i]? = some x → DR sh d x) → ∃ l : List α, es = l.map enc ∧ ∀ x ∈ l, ok x := by
      intro es
      induction es with
      | nil => exact fun _ _ _ => ⟨[], rfl, by simp⟩
      | cons e es ih =>
        intro ds hn h
        cases ds with
        | nil => simp at hn
        | cons d ds =>
          obtain ⟨x, hx, hox⟩ := hex d e (h 0 d e rfl rfl)
          obtain ⟨l, hl, hol⟩ := ih ds (by simpa using hn) fun i d x hd hx => h (i + 1) d x (by simpa using hd) (by simpa using hx)
          refine ⟨x :: l, by simp [hx, hl], fun y hy => ?_⟩
          rcases List.mem_cons.1 hy with rfl | hy
          · exact hox
          · exact hol y hy
    obtain ⟨l, rfl, hol⟩ := this es ds hn h
    exact ⟨l, rfl, hol, by simpa using hm, .inr ⟨ds, sp, rfl, by simpa using hn⟩⟩
theorem fits_text (d : DataW H) (pvs : List PV) (h : DR .str d pvs) : ∃ v, pvs = encS v ∧ v.size ≤ maxLen := by
  obtain ⟨s, h1, rfl, _⟩ := fits_str h
  exact ⟨s, rfl, h1⟩
theorem fits_byte (d : DataW H) (pvs : List PV) (h : DR (.int .u8) d pvs) : ∃ v : UInt8, pvs = encP v ∧ True := by
  obtain ⟨n, h1, rfl, _⟩ := fits_one h
  rw [has_u8] at h1
  refine ⟨UInt8.ofNat n.toNat, ?_, trivial⟩
  have : ((UInt8.ofNat n.toNat).toNat : Int) = n := by
    rw [u8_ofNat (by omega)]
    omega
  rw [encP, this]
theorem fits_result {d : DataW H} {pvs : List PV} (h : DR (.st [.int .i64, .bool, .int .i64, .str, .sl .str]) d pvs) : ∃ r : RS, r.Fits ∧ pvs.map CV.p = r.cells := by
  cases h with
  | st _ ds _ h =>
    cases h with
    | cons h1 h =>
      cases h with
      | cons h2 h =>
        cases h with
        | cons h3 h =>
          cases h with
          | cons h4 h =>
            cases h with
            | cons h5 h =>
              cases h
              obtain ⟨c, hc, rfl, _⟩ := fits_one h1
              obtain ⟨b, rfl, _⟩ := fits_bool h2
              obtain ⟨z, hz, rfl, _⟩ := fits_one h3
              obtain ⟨t, ht, rfl, _⟩ := fits_str h4
              obtain ⟨l, rfl, hl, hll, _⟩ := fits_sl fits_text h5
              exact ⟨⟨c, b, z, t, l⟩, ⟨hc, hz, ht, hl, hll⟩, rfl⟩
/-- How long it may be. -/
theorem len_of {P : Program} {ts : List TypeId} {ds : List (DataW H)} (hsz : (DataW.weightsEach P ts ds).all (· ≤ reachBytes) = true) {j : Nat} {t e : TypeId} (ht : ts[j]? = some t) (hu : P.underlying t = some (.slice e)) {d : DataW H} (hd : ds[j]? = some d) {n : Nat}
    (h : d = .nil ∧ n = 0 ∨ ∃ es sp, d = .slice es sp ∧ es.length = n) : n * P.bytesOf e ≤ reachBytes := by
  rcases h with ⟨_, rfl⟩ | ⟨es, sp, rfl, rfl⟩
  · simp
  · refine Nat.le_trans (Nat.mul_le_mul_right _ (Nat.le_add_right es.length sp.length)) (sized_slice hsz ht hd hu)
end
theorem fit : Fit E.P where
  mixed := by kernel_rfl
  name := by
    have h : (Go.Proofs.Try.prog.funcs.toList.all fun fn => fn.body.isNone || !(fn.name == "runtime.NumGoroutine")) = true := by kernel_rfl
    intro g fn hg hb
    have hg' : Go.Proofs.Try.prog.funcs[g]? = some fn := hg
    have := List.all_eq_true.1 h fn (List.mem_of_getElem? (by simpa using hg'))
    cases hn : fn.body with
    | none => rw [hn] at hb; cases hb
    | some c => simpa [hn] using this
theorem ext_ok : ∀ g f args m out, E.ext g = some f → f args m = some out → CallsOk E.P g args m out := fun g f args m out hf h => extF_ok g f args m out hf h
theorem laid : laidOutB Go.Proofs.Try.prog = true := by kernel_rfl
end Go.Ab
