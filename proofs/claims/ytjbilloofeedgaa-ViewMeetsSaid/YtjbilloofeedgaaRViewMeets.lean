/- ViewMeets: whatever two sets it is handed, the law answers true and changes nothing. No condition. -/
import Derived.Test.YtjbilloofeedgaaVs
namespace Go.Proofs.Ytjbilloofeedgaa.viewMeets
open Go.ChangeShapes Go.WideShapes Go.ChangeAt Go.RowKit Go.Ab

theorem own : ownKnob Try.prog.godebug = none := by kernel_rfl
set_option maxRecDepth 100000 in
theorem lifted (os : Os) (started : os.Started) (H : Type) (enc : TypeId × Value → H) :
    ReturnsInHanded {} Try.checked os 10 .any (Rows.viewMeetsSpec.pre6 enc Try.prog Try.f10 Rows.viewMeetsRow.domain false) (Rows.viewMeetsSpec.post enc Try.prog Try.f10 false true false false) := by
  refine returnsInHanded_of_change_sized (C := Try.checked) own started (by kernel_rfl) Try.func10
    (ChangeSpec.witness6 (enc := enc) (C := Try.checked) false ⟨#[], #[.slice none 0 0, .slice none 0 0], []⟩ 8 (by kernel_rfl) (by kernel_rfl) (by kernel_rfl) (by kernel_rfl)) ?_
  intro W base args ds gs before hval hW _ hsz _
  have hW' := hW
  obtain ⟨p, q, hA, hV, rfl, _, _⟩ := hW'
  obtain ⟨tes, hD, hR⟩ := args_h (n := 8) (shs := [.sl .bool, .sl .bool]) (by kernel_rfl) hA hval
  have hgs : gs = [] := by
    cases gs with
    | nil => rfl
    | cons g gs => exact hV.elim
  subst hgs
  simp only [List.append_nil] at hsz
  cases hD with
  | @cons _ _ d0 _ _ _ h0 hD =>
  obtain ⟨l, rfl, hl⟩ := fits_sl fits_b h0
  cases hD with
  | @cons _ _ d1 _ _ _ h1 hD =>
  obtain ⟨r, rfl, hr⟩ := fits_sl fits_b h1
  cases hD
  have hb := len_of hsz (j := 0) (t := 61) (e := 4) rfl (by kernel_rfl) rfl hl
  have hbb : Try.checked.prog.bytesOf 4 = 1 := by kernel_rfl
  rw [hbb] at hb
  have hb' : l.length * 1 ≤ 140737488351232 := hb
  obtain ⟨m', hrun⟩ := L10 l r (by omega)

  refine (law_calls fit ext_ok hrun hR).mono fun e W' ⟨he, hb⟩ => ⟨_, he, ?_⟩
  exact law_post (tb := 4) laid rfl (by kernel_rfl) (by kernel_rfl) (by decide +kernel) hW (fun _ => rfl) hb

theorem over : Rows.viewMeetsRow.holds Try.pinned (OpenSpec.ofChange Rows.viewMeetsSpec) :=
  OpenClaim.holds_of_wide 10 Try.f10 rfl rfl rfl rfl rfl rfl rfl ⟨rfl, rfl, rfl, rfl, rfl⟩ rfl rfl rfl rfl rfl (by kernel_rfl) Try.func10 (by kernel_rfl)
    (of_decide_eq_true (by kernel_rfl)) (by unfold Func.isWrapper; first | (rw [if_pos (by decide +kernel)]; kernel_rfl) | (rw [if_neg (by decide +kernel)]; exact ⟨rfl, rfl⟩))
    (fun os started H enc _ => lifted os started H enc)
theorem proved : Rows.ViewMeetsSaid :=
  over
#print axioms proved
end Go.Proofs.Ytjbilloofeedgaa.viewMeets
