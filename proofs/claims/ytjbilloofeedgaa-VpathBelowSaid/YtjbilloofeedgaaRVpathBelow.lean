/- VpathBelow: whatever path and name it is handed, the law answers true and changes nothing. No condition. -/
import Derived.Test.YtjbilloofeedgaaPt
namespace Go.Proofs.Ytjbilloofeedgaa.vpathBelow
open Go.ChangeShapes Go.WideShapes Go.ChangeAt Go.RowKit Go.Ab

theorem own : ownKnob Try.prog.godebug = none := by kernel_rfl
set_option maxRecDepth 100000 in
theorem lifted (os : Os) (started : os.Started) (H : Type) (enc : TypeId × Value → H) :
    ReturnsInHanded {} Try.checked os 3 .any (Rows.vpathBelowSpec.pre6 enc Try.prog Try.f3 Rows.vpathBelowRow.domain false) (Rows.vpathBelowSpec.post enc Try.prog Try.f3 false true false false) := by
  refine returnsInHanded_of_change_sized (C := Try.checked) own started (by kernel_rfl) Try.func3
    (ChangeSpec.witness6 (enc := enc) (C := Try.checked) false ⟨#[], #[.string ⟨#[]⟩, .string ⟨#[]⟩], []⟩ 8 (by kernel_rfl) (by kernel_rfl) (by kernel_rfl) (by kernel_rfl)) ?_
  intro W base args ds gs before hval hW _ hsz _
  have hW' := hW
  obtain ⟨p, q, hA, hV, rfl, _, _⟩ := hW'
  obtain ⟨tes, hD, hR⟩ := args_h (n := 8) (shs := [.str, .str]) (by kernel_rfl) hA hval
  have hgs : gs = [] := by
    cases gs with
    | nil => rfl
    | cons g gs => exact hV.elim
  subst hgs
  simp only [List.append_nil] at hsz
  cases hD with
  | cons h0 hD =>
  obtain ⟨s, hs, rfl, _⟩ := fits_str h0
  cases hD with
  | cons h1 hD =>
  obtain ⟨x, hx, rfl, _⟩ := fits_str h1
  cases hD
  obtain ⟨m', hrun⟩ := L3 s x hs hx

  refine (law_calls fit ext_ok hrun hR).mono fun e W' ⟨he, hb⟩ => ⟨_, he, ?_⟩
  exact law_post (tb := 4) laid rfl (by kernel_rfl) (by kernel_rfl) (by decide +kernel) hW (fun _ => rfl) hb

theorem over : Rows.vpathBelowRow.holds Try.pinned (OpenSpec.ofChange Rows.vpathBelowSpec) :=
  OpenClaim.holds_of_wide 3 Try.f3 rfl rfl rfl rfl rfl rfl rfl ⟨rfl, rfl, rfl, rfl, rfl⟩ rfl rfl rfl rfl rfl (by kernel_rfl) Try.func3 (by kernel_rfl)
    (of_decide_eq_true (by kernel_rfl)) (by unfold Func.isWrapper; first | (rw [if_pos (by decide +kernel)]; kernel_rfl) | (rw [if_neg (by decide +kernel)]; exact ⟨rfl, rfl⟩))
    (fun os started H enc _ => lifted os started H enc)
theorem proved : Rows.VpathBelowSaid :=
  over
#print axioms proved
end Go.Proofs.Ytjbilloofeedgaa.vpathBelow
