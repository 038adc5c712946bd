/- OpReturns: whatever result and bytes it is handed, the law answers true and changes nothing. No condition. -/
import Derived.Test.YtjbilloofeedgaaOt
namespace Go.Proofs.Ytjbilloofeedgaa.opReturns
open Go.ChangeShapes Go.WideShapes Go.ChangeAt Go.RowKit Go.Ab

theorem own : ownKnob Try.prog.godebug = none := by kernel_rfl
set_option maxRecDepth 100000 in
theorem lifted (os : Os) (started : os.Started) (H : Type) (enc : TypeId × Value → H) :
    ReturnsInHanded {} Try.checked os 5 .any (Rows.opReturnsSpec.pre6 enc Try.prog Try.f5 Rows.opReturnsRow.domain false) (Rows.opReturnsSpec.post enc Try.prog Try.f5 false true false false) := by
  refine returnsInHanded_of_change_sized (C := Try.checked) own started (by kernel_rfl) Try.func5
    (ChangeSpec.witness6 (enc := enc) (C := Try.checked) false ⟨#[], #[.agg #[.int .i64 0, .bool false, .int .i64 0, .string ⟨#[]⟩, .slice none 0 0], .slice none 0 0], []⟩ 8 (by kernel_rfl) (by kernel_rfl) (by kernel_rfl) (by kernel_rfl)) ?_
  intro W base args ds gs before hval hW _ hsz _
  have hW' := hW
  obtain ⟨p, q, hA, hV, rfl, _, _⟩ := hW'
  obtain ⟨tes, hD, hR⟩ := args_h (n := 8) (shs := [.st [.int .i64, .bool, .int .i64, .str, .sl .str], .sl (.int .u8)]) (by kernel_rfl) hA hval
  have hgs : gs = [] := by
    cases gs with
    | nil => rfl
    | cons g gs => exact hV.elim
  subst hgs
  simp only [List.append_nil] at hsz
  cases hD with
  | @cons _ _ d0 _ pvs0 _ h0 hD =>
  obtain ⟨r, hr, hcs⟩ := fits_result h0
  cases hD with
  | @cons _ _ d1 _ _ _ h1 hD =>
  obtain ⟨l, rfl, _, _, hl⟩ := fits_sl fits_byte h1
  cases hD
  have hb := len_of hsz (j := 1) (t := 38) (e := 5) rfl (by kernel_rfl) rfl hl
  have hbb : Try.checked.prog.bytesOf 5 = 1 := by kernel_rfl
  rw [hbb] at hb
  have hb' : l.length * 1 ≤ 140737488351232 := hb
  have hte : Sh.te (.st [.int .i64, .bool, .int .i64, .str, .sl .str]) pvs0 = tR r := by
    show TE.a (pvs0.map CV.p) = _
    rw [hcs]
  rw [hte] at hR
  obtain ⟨m', hrun⟩ := L5 r hr l (by unfold roomB; omega)

  refine (law_calls fit ext_ok hrun hR).mono fun e W' ⟨he, hb⟩ => ⟨_, he, ?_⟩
  exact law_post (tb := 4) laid rfl (by kernel_rfl) (by kernel_rfl) (by decide +kernel) hW (fun _ => rfl) hb

theorem over : Rows.opReturnsRow.holds Try.pinned (OpenSpec.ofChange Rows.opReturnsSpec) :=
  OpenClaim.holds_of_wide 5 Try.f5 rfl rfl rfl rfl rfl rfl rfl ⟨rfl, rfl, rfl, rfl, rfl⟩ rfl rfl rfl rfl rfl (by kernel_rfl) Try.func5 (by kernel_rfl)
    (of_decide_eq_true (by kernel_rfl)) (by unfold Func.isWrapper; first | (rw [if_pos (by decide +kernel)]; kernel_rfl) | (rw [if_neg (by decide +kernel)]; exact ⟨rfl, rfl⟩))
    (fun os started H enc _ => lifted os started H enc)
theorem proved : Rows.OpReturnsSaid :=
  over
#print axioms proved
end Go.Proofs.Ytjbilloofeedgaa.opReturns
