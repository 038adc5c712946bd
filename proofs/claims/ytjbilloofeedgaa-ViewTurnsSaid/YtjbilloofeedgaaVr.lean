/- The contract of view.Reached. -/
import Derived.RangeFuncBox
import Derived.RangeFuncLeaves
import Derived.Shelf.Abstract
import Derived.WalkKit
import Derived.OwnWalkIn
import Derived.TacticsInMore
import Derived.LoopNIn
import Derived.LoopIn
import Derived.Maps.AppendAt
import Derived.Sort.OwnSortedInts
import Derived.RangeFuncBound
import Derived.Test.YtjbilloofeedgaaProg
import Derived.Sort.Row
import Derived.Test.YtjbilloofeedgaaVx
import Derived.Shelf.SlGeneric
import Derived.Shelf.SortG.Plain
import Derived.Ground.SlgnProg
import Derived.Test.YtjbilloofeedgaaVp
set_option linter.unusedVariables false
set_option linter.unusedSimpArgs false
/- 'view.Reached': what it answers, by the walk of its text and of the library's 'slices.Values', 'slices.Sorted'. -/
namespace Go.Proofs
open Go.RowKit Go.Shelf Go.Sort Go.Maps

attribute [local go_sem] Oper.semAt_some

/-! ### slices.Values -/
def Try.upto {α : Type} (f : Nat → α) (k : Nat) : List α := (List.range k).map f
theorem Try.upto_succ {α : Type} (f : Nat → α) (k : Nat) : Try.upto f (k + 1) = Try.upto f k ++ [f k] := by simp [Try.upto, List.range_succ]
theorem Try.upto_length {α : Type} (f : Nat → α) (k : Nat) : (Try.upto f k).length = k := by simp [Try.upto]
theorem Try.upto_all (zs : List Int) : Try.upto (fun j => zs[j]?.getD 0) zs.length = zs := by
  apply List.ext_getElem
  · simp [Try.upto]
  · intro i h1 h2
    simp [Try.upto, h2]
theorem Try.upto_take (zs : List Int) {k : Nat} (hk : k ≤ zs.length) : Try.upto (fun j => zs[j]?.getD 0) k = zs.take k := by
  apply List.ext_getElem
  · simp [Try.upto, hk]
  · intro i h1 h2
    have : i < zs.length := by simp [Try.upto] at h1; omega
    simp [Try.upto, this]
set_option maxRecDepth 100000 in
set_option maxHeartbeats 2000000 in
theorem Try.values1_in (F : Fence) (n : Nat) (h7 : F.fn 95) (hro : F.round = none) (hn : 1 ≤ n) (l Bs n₀ b off len cap : Nat) (zs : List Int) (hreach : len * 8 ≤ 140737488351232) (hb : b < n₀) (J Jx : List Int → World → Prop)
    (hY : ∀ pre x W, J pre W → pre.length < len → YieldAt F (n - 1) Try.prog l #[.int .i64 x] W fun e W' =>
      (e = .returned (.bool true) ∧ J (pre ++ [x]) W' ∧ Below n₀ W W') ∨ (e = .returned (.bool false) ∧ Jx (pre ++ [x]) W'))
    (W : World) (hBs : W.cell? ⟨Bs, 0, none⟩ = some (.slice (some ⟨b, off, none⟩) len cap)) (hc : ∀ j, j < len → W.cell? ⟨b, off + j, none⟩ = some (.int .i64 (zs[j]?.getD 0))) (h0 : J [] W) :
    CallsIn F n Try.prog 95 #[.func (.yield l) #[] #[], .pointer (some ⟨Bs, 0, none⟩)] W fun e W' => (∃ v, e = .returned v) ∧
      ((∃ ys, ys = Try.upto (fun j => zs[j]?.getD 0) len ∧ J ys W') ∨ (∃ pre, (∃ k, k ≤ len ∧ pre = Try.upto (fun j => zs[j]?.getD 0) k) ∧ Jx pre W')) := by
  refine callsIn_of_wp Try.func95 rfl h7 ?_ hro
  simp only [Try.ntmps95, List.size_toArray, List.length_cons, List.length_nil, Nat.reduceAdd, Nat.reduceSub, Array.replicate_succ, Array.replicate_zero, List.push_toArray, List.append_toArray, List.nil_append, List.cons_append]
  gi_wp2
  gi_loopw [7] (fun i wr => ∃ k : Nat, k ≤ len ∧ i = .int .i64 k ∧ J (Try.upto (fun j => zs[j]?.getD 0) k) wr ∧ Below n₀ W wr)
    (fun i _ => len - (intOf i).toNat)
  case atStart => exact ⟨0, Nat.zero_le _, rfl, h0, Below.refl _ _⟩
  case round =>
    obtain ⟨k, hk, rfl, hJs, hnx⟩ := hrel
    have hcx : k < len → wr.cell? ⟨b, off + k, none⟩ = some (.int .i64 (zs[k]?.getD 0)) := fun h => (hnx.cell (p := ⟨b, off + k, none⟩) hb).trans (hc k h)
    by_cases hlt : k < len
    · obtain ⟨fn, tmps, assign, body, hy, hR⟩ := hY _ (zs[k]?.getD 0) wr hJs (by rw [Try.upto_length]; exact hlt)
      have hcx' := hcx hlt
      gi_wp2
      refine hR.mono ?_
      rintro e W3 (⟨rfl, hJ3, hk3⟩ | ⟨rfl, hJx3⟩)
      · gi_wp2
        go_roundw
        case rel => exact ⟨k + 1, by omega, by simp, by rw [Try.upto_succ]; exact hJ3, hnx.trans hk3⟩
        case measure => simp [intOf]; omega
      · gi_wp2
        refine bodyPost_ret (results_none rfl _ _ _) rfl ?_
        exact ⟨⟨_, rfl⟩, .inr ⟨_, ⟨k + 1, by omega, (Try.upto_succ _ _).symm⟩, hJx3⟩⟩
    · obtain rfl : k = len := by omega
      gi_wp2
      go_end0
      exact ⟨⟨_, rfl⟩, .inl ⟨_, rfl, hJs⟩⟩
/-- The slice holds the numbers, in a block that is not written. -/
def Try.Ints (n₀ : Nat) (W : World) (sv : Value) (zs : List Int) : Prop :=
  ∃ b off cap, sv = .slice (some ⟨b, off, none⟩) zs.length cap ∧ b < n₀ ∧ ∀ j, j < zs.length → W.cell? ⟨b, off + j, none⟩ = some (.int .i64 (zs[j]?.getD 0))
theorem Try.Ints.below {n₀ : Nat} {A B : World} (h : Below n₀ A B) {sv : Value} {zs : List Int} : Try.Ints n₀ A sv zs → Try.Ints n₀ B sv zs
  | ⟨b, off, cap, e, hb, hc⟩ => ⟨b, off, cap, e, hb, fun j hj => (h.cell (p := ⟨b, off + j, none⟩) hb).trans (hc j hj)⟩
set_option maxHeartbeats 1000000 in
theorem Try.values_in (F : Fence) (n : Nat) (h5 : F.fn 76) (hro : F.round = none) (a : Option Addr) (len cap : Nat) (w : World) :
    CallsIn F n Try.prog 76 #[.slice a len cap] w fun e w' => e = .returned (.func (.func 95) #[] #[.pointer (some ⟨w.heap.size, 0, none⟩)]) ∧ w' = w.alloc (.cells #[.slice a len cap] 58) := by
  refine callsIn_of_wp Try.func76 rfl h5 ?_ hro
  simp only [Try.ntmps76, List.size_toArray, List.length_cons, List.length_nil, Nat.reduceAdd, Nat.reduceSub, Array.replicate_succ, Array.replicate_zero, List.push_toArray, List.append_toArray, List.nil_append, List.cons_append]
  gi_wp2
  go_ret
  exact ⟨rfl, rfl⟩
theorem Try.values_stops (F : Fence) (n : Nat) (h7 : F.fn 95) (hro : F.round = none) (hn : 1 ≤ n) (Bs n₀ : Nat) (sv : Value) (zs : List Int) (hreach : zs.length * 8 ≤ 140737488351232) (w : World) (hBs : Bs < w.heap.size) (hn₀ : n₀ ≤ w.heap.size)
    (hc : w.cell? ⟨Bs, 0, none⟩ = some sv) (hI : Try.Ints n₀ w sv zs) :
    SeqStopsK F n Try.prog 95 #[.pointer (some ⟨Bs, 0, none⟩)] (fun x : Int => #[Value.int .i64 x]) (Below n₀) (fun ys => ys = zs) (fun pre => pre <+: zs) zs.length w := fun l J Jx W hW _ _ hY h0 => by
  have hc' := (hW.cell (p := ⟨Bs, 0, none⟩) hBs).trans hc
  obtain ⟨b, off, cap, rfl, hb, hcs⟩ := hI.below (hW.mono hn₀)
  refine (Try.values1_in F n h7 hro hn l Bs n₀ b off zs.length cap zs hreach hb J Jx hY W hc' hcs h0).mono ?_
  rintro e W' ⟨he, ⟨ys, rfl, hj⟩ | ⟨pre, ⟨k, hk, rfl⟩, hj⟩⟩
  · exact ⟨he, .inl ⟨_, Try.upto_all zs, hj⟩⟩
  · exact ⟨he, .inr ⟨_, by rw [Try.upto_take zs hk]; exact List.take_prefix _ _, hj⟩⟩

/-! ### slices.AppendSeq, slices.Collect -/
theorem Try.info2 : (Try.prog.info? 2).map (fun i => (i.zero, i.size, i.bytes)) = some (some (.int .i64 0), 1, 8) := by kernel_rfl
set_option maxRecDepth 100000 in
set_option maxHeartbeats 2000000 in
theorem Try.appendSeq_in (F : Fence) (n : Nat) (h3 : F.fn 101) (h5 : F.fn 95) (hro : F.round = none) (hn : 3 ≤ n) (Bs : Nat) (sv : Value) (zs : List Int) (hlen : zs.length ≤ maxLen) (hbytes : zs.length * 8 ≤ 140737488351232) (w : World) (hBs : Bs < w.heap.size)
    (hcv : w.cell? ⟨Bs, 0, none⟩ = some sv) (hL : Try.Ints w.heap.size w sv zs) :
    CallsIn F n Try.prog 101 #[.slice none 0 0, .func (.func 95) #[] #[.pointer (some ⟨Bs, 0, none⟩)]] w fun e W' => ∃ v, e = .returned v ∧ W'.ownsRow w.heap.size 2 1 v zs.length (zs.map (Value.int .i64)) ∧ (v = .slice none 0 0 ↔ zs = []) ∧ Below w.heap.size w W' := by
  have h1 : 1 ≤ n := by omega
  obtain ⟨i0, hi, hz0, hz1, hz2⟩ := info_parts Try.info2
  refine callsIn_of_wp_marks Try.func101 rfl h3 ?_ hro
  simp only [Try.ntmps101, List.size_toArray, List.length_cons, List.length_nil, Nat.reduceAdd, Nat.reduceSub, Array.replicate_succ, Array.replicate_zero, List.push_toArray, List.append_toArray, List.nil_append, List.cons_append]
  gi_wp2
  have bO := Boxed.new w 58 (.slice none 0 0)
  have hB0 : Below w.heap.size w (w.alloc (.cells #[.slice none 0 0] 58)) := (Below.refl _ w).alloc (Nat.le_refl _) _
  refine wpIn_rangeFunc_ownG hro h1 (gf := 95) (lb := #[.pointer (some ⟨Bs, 0, none⟩)]) rfl h5 (enters_of Try.func95 (by kernel_rfl) rfl)
    (Try.values_stops F (n - 1) h5 hro (by omega) Bs w.heap.size sv zs hbytes _ (by simp; omega) (by simp) ((hB0.cell (p := ⟨Bs, 0, none⟩) hBs).trans hcv) (hL.below hB0)) belowK_t (belowK_b (by simp)) (Below.refl _ _) (fun _ => rfl)
    (fun pre W => (∃ v, Boxed W w.heap.size 58 v ∧ W.ownsRow w.heap.size 2 1 v pre.length (pre.map (Value.int .i64)) ∧ (v = .slice none 0 0 ↔ pre = [])) ∧ Below w.heap.size w W)
    (fun _ _ _ => False)
    (OwnFrom.and (Own.from (holdsRow_own w.heap.size w.heap.size 58 2 1 (fun pre => pre.length) (fun pre => pre.map (Value.int .i64)) (fun pre v => v = .slice none 0 0 ↔ pre = [])) _) (ownFrom_below (Nat.le_refl _) (by simp)))
    (fun _ _ _ _ _ hs _ _ => hs)
    ⟨⟨_, bO, World.ownsRow_nil _ _ _ _, by simp⟩, hB0⟩
    (fun x => { tmps := #[.slice none 0 0, .func (.func 95) #[] #[.pointer (some ⟨Bs, 0, none⟩)], .pointer (some ⟨w.heap.size, 0, none⟩), undef, .slice none 0 0, .int .i64 x, .func (.func 95) #[] #[.pointer (some ⟨Bs, 0, none⟩)], .int .i64 x, undef, undef, undef, undef, undef], defers := [] }) ?assign ?body ?done ?stop
  case assign =>
    intro l x W K hK
    gi_wp2
    exact hK
  case body =>
    rintro l pre x W ⟨⟨v, hv, hrow, hnil⟩, hB⟩ hlt
    have hc := hv.cell
    gi_wp2_with (gi_at_builtin; refine wpListIn_append_own _ rfl _ _ 58 rfl w.heap.size 2 i0 (.int .i64 0) 1 8 Try.underlying58 hi hz0 hz1 hz2 rfl (by decide) _ _ _ rfl (hrow.alloc _) ⟨W.heap.size, 0, none⟩ 1 1 [.int .i64 x] rfl rfl (cell_one_new _ _ _) (by simp [Value.oneCell']) (by omega) (by omega) (by have := hB.size; simp; omega) ?_; intro v' w1 hown' hgrow _; obtain ⟨g', cap', rfl⟩ := ownsRow_succ hown'; obtain ⟨hv1, hv2, hr2, hk2, hb2⟩ := hv.appended (by decide) hrow hB.size (Nat.le_refl _) hown' hgrow; have hc1 := hv1.cell; have hf1 := hv1.frozen)
    exact ⟨hk2.from _, hb2, ⟨_, hv2, by simpa using hr2, by simp⟩, hB.trans hb2⟩
  case done =>
    rintro D ys W hD rfl ⟨⟨v, hv, hrow, hnil⟩, hB⟩ hK
    have hc := hv.cell
    gi_wp2
    refine ⟨by simp, .inl ⟨_, _, rfl, run_takeDeferred hK, ?_⟩⟩
    exact ⟨_, results_tmp rfl _ _ _, v, rfl, ownsRow_putObj hrow _ hK rfl, hnil, hB.trans (belowK_b (w := w) (Nat.le_refl _) W D _ _ (by simp at hD; omega) hK rfl rfl)⟩
  case stop =>
    rintro D c pre W _ _ h _
    exact h.elim
end Go.Proofs

/- 'view.Reached': slices.Collect, slices.Sorted. -/
namespace Go.Proofs
open Go.RowKit Go.Shelf Go.Sort Go.Maps

set_option maxRecDepth 100000 in
set_option maxHeartbeats 2000000 in
theorem Try.collect_in (F : Fence) (n : Nat) (h3 : F.fn 93) (h4 : F.fn 101) (h5 : F.fn 95) (hro : F.round = none) (hn : 4 ≤ n) (Bs : Nat) (sv : Value) (zs : List Int) (hlen : zs.length ≤ maxLen) (hbytes : zs.length * 8 ≤ 140737488351232) (w : World) (hBs : Bs < w.heap.size)
    (hcv : w.cell? ⟨Bs, 0, none⟩ = some sv) (hL : Try.Ints w.heap.size w sv zs) :
    CallsIn F n Try.prog 93 #[.func (.func 95) #[] #[.pointer (some ⟨Bs, 0, none⟩)]] w fun e W' => ∃ v, e = .returned v ∧ W'.ownsRow w.heap.size 2 1 v zs.length (zs.map (Value.int .i64)) ∧ (v = .slice none 0 0 ↔ zs = []) ∧ Below w.heap.size w W' := by
  have h1 : 1 ≤ n := by omega
  refine callsIn_of_wp Try.func93 rfl h3 ?_ hro
  simp only [Try.ntmps93, List.size_toArray, List.length_cons, List.length_nil, Nat.reduceAdd, Nat.reduceSub, Array.replicate_succ, Array.replicate_zero, List.push_toArray, List.append_toArray, List.nil_append, List.cons_append]
  gi_wp2_with (gi_at_call 101; refine (Try.appendSeq_in F (n - 1) h4 h5 hro (by omega) Bs sv zs hlen hbytes _ hBs hcv hL).mono ?_; rintro e W ⟨v, rfl, hrow, hnil, hb⟩)
  go_ret
  exact ⟨v, rfl, hrow, hnil, hb⟩
/-- slices.Sort's contract. -/
def Try.SortsIn (F : Fence) (m : Nat) : Prop :=
  ∀ (blk off cap : Nat) (ss : List Int) (W : World), Holds (Value.int .i64) W blk off ss.toArray → blk < W.heap.size → ss.length < 4611686018427387904 →
    CallsIn F m Try.prog 94 #[.slice (some ⟨blk, off, none⟩) ss.length cap] W fun e w' => e = .returned (.tuple #[]) ∧ ∃ k os, w' = grow (putRow (Value.int .i64) (Sort.ahead W k) blk off (ss.mergeSort fun x y => decide (x ≤ y)).toArray) os
set_option maxRecDepth 100000 in
set_option maxHeartbeats 2000000 in
theorem Try.sorted_in (F : Fence) (n : Nat) (h2 : F.fn 75) (h3 : F.fn 93) (h4 : F.fn 101) (h5 : F.fn 95) (h6 : F.fn 94) (hro : F.round = none) (hn : 5 ≤ n) (hsort : Try.SortsIn F (n - 1)) (Bs : Nat) (sv : Value) (zs : List Int) (hne : zs ≠ []) (hlen : zs.length ≤ maxLen) (hbytes : zs.length * 8 ≤ 140737488351232) (w : World) (hBs : Bs < w.heap.size)
    (hcv : w.cell? ⟨Bs, 0, none⟩ = some sv) (hL : Try.Ints w.heap.size w sv zs) :
    CallsIn F n Try.prog 75 #[.func (.func 95) #[] #[.pointer (some ⟨Bs, 0, none⟩)]] w fun e W' => ∃ b off cap, e = .returned (.slice (some ⟨b, off, none⟩) zs.length cap) ∧
      (∀ j, j < zs.length → W'.cell? ⟨b, off + j, none⟩ = some (.int .i64 ((zs.mergeSort fun x y => decide (x ≤ y)).getD j 0))) ∧ Below w.heap.size w W' := by
  have h1 : 1 ≤ n := by omega
  refine callsIn_of_wp Try.func75 rfl h2 ?_ hro
  simp only [Try.ntmps75, List.size_toArray, List.length_cons, List.length_nil, Nat.reduceAdd, Nat.reduceSub, Array.replicate_succ, Array.replicate_zero, List.push_toArray, List.append_toArray, List.nil_append, List.cons_append]
  gi_wp2_with (gi_at_call 93; refine (Try.collect_in F (n - 1) h3 h4 h5 hro (by omega) Bs sv zs hlen hbytes _ hBs hcv hL).mono ?_; rintro e W ⟨v, rfl, hrow, hnil, hb⟩)
  rcases hrow.2 with ⟨rfl, hz⟩ | ⟨gb, cap, cur, rfl, hbase, hgb, r1, r2, r3, r4⟩
  · exact absurd (hnil.1 rfl) hne
  · have hH : Holds (Value.int .i64) W gb 0 zs.toArray := Go.holds_of_blockI hgb (by simpa using r4)
    have hgl : gb < W.heap.size := (Array.getElem?_eq_some_iff.1 hgb).1
    have hsz : zs.length < 4611686018427387904 := by omega
    have cS := hsort gb 0 cap zs W hH hgl hsz
    gi_wp2_with (gi_at_call 94; refine cS.mono ?_; rintro e w' ⟨rfl, nn, os, rfl⟩)
    go_ret
    refine ⟨gb, 0, cap, rfl, fun j hj => ?_, hb.grown (Go.grownBy_sortedI _) hb.size (fun j hj => by cases hj; exact hbase)⟩
    have hml : (zs.mergeSort fun x y => decide (x ≤ y)).length = zs.length := List.length_mergeSort ..
    have hjm : j < (zs.mergeSort fun x y => decide (x ≤ y)).length := by omega
    rw [cell?_grow _ _ _ (by simpa using hgl), cell?_putRow _ _ gb 0 zs.toArray _ (holds_ahead _ _ _ _ _ _ hH) (by simp) j (by simpa using hjm)]
    congr 2
    simp [List.getD_eq_getElem?_getD]
end Go.Proofs

/- 'view.Reached' itself. -/
namespace Go.Proofs
open Go.RowKit Go.Shelf Go.Sort Go.Maps

set_option maxRecDepth 100000 in
set_option maxHeartbeats 1000000 in
theorem Try.quorum_in (F : Fence) (n : Nat) (h : F.fn 29) (hro : F.round = none) (k : Nat) (h0 : 0 < k) (hk : k ≤ 4611686018427387904) (w : World) : CallsIn F n Try.prog 29 #[.int .i64 k] w fun e w' => e = .returned (.int .i64 ((k / 2 + 1 : Nat) : Int)) ∧ w = w' := by
  refine callsIn_of_wp Try.func29 rfl h ?_ hro
  simp only [Try.ntmps29, List.size_toArray, List.length_cons, List.length_nil, Nat.reduceAdd, Nat.reduceSub, Array.replicate_succ, Array.replicate_zero, List.push_toArray, List.append_toArray, List.nil_append, List.cons_append]
  gi_wp2
  go_ret
  refine ⟨?_, rfl⟩
  congr 2
theorem Try.reached_none (A : Option Addr) (cap : Nat) (w : World) : Calls Try.prog 37 #[.slice A 0 cap] w fun e w' => e = .returned (.int .i64 0) ∧ w = w' := by
  go_enter Try.func37, Try.ntmps37
  go_wp2
  go_ret
  exact ⟨rfl, rfl⟩
set_option maxRecDepth 100000 in
set_option maxHeartbeats 2000000 in
theorem Try.reached_some (hsort : Try.SortsIn Fence.wide 6) (b off cap : Nat) (zs : List Int) (hne : zs ≠ []) (hbytes : zs.length * 8 ≤ 140737488351232) (w : World) (hb : b < w.heap.size) (hc : ∀ j, j < zs.length → w.cell? ⟨b, off + j, none⟩ = some (.int .i64 (zs[j]?.getD 0))) :
    Calls Try.prog 37 #[.slice (some ⟨b, off, none⟩) zs.length cap] w fun e w' => e = .returned (.int .i64 (Go.Ab.reachedZ zs)) ∧ Below w.heap.size w w' := by
  have h0 : 0 < zs.length := List.length_pos_iff.2 hne
  have hI : Try.Ints w.heap.size w (.slice (some ⟨b, off, none⟩) zs.length cap) zs := ⟨b, off, cap, rfl, hb, hc⟩
  refine (callsIn_wide (n := 8)).1 ?_
  refine callsIn_of_wp Try.func37 rfl trivial ?_ rfl
  have hB : Below w.heap.size w (w.alloc (.cells #[.slice (some ⟨b, off, none⟩) zs.length cap] 58)) := (Below.refl _ w).alloc (Nat.le_refl _) _
  have hI2 : Try.Ints (w.alloc (.cells #[.slice (some ⟨b, off, none⟩) zs.length cap] 58)).heap.size (w.alloc (.cells #[.slice (some ⟨b, off, none⟩) zs.length cap] 58)) (.slice (some ⟨b, off, none⟩) zs.length cap) zs := by
    obtain ⟨b', off', cap', e, hb', hc'⟩ := hI.below hB
    exact ⟨b', off', cap', e, by simp; omega, hc'⟩
  have bO := Boxed.new w 58 (.slice (some ⟨b, off, none⟩) zs.length cap)
  have hq : Go.Ab.reachedZ zs = (zs.mergeSort fun x y => decide (x ≤ y)).getD (zs.length - (zs.length / 2 + 1)) 0 := rfl
  rw [hq]
  clear hq
  have hidx : zs.length - (zs.length / 2 + 1) < zs.length := by omega
  simp only [Try.ntmps37, List.size_toArray, List.length_cons, List.length_nil, Nat.reduceAdd, Nat.reduceSub, Array.replicate_succ, Array.replicate_zero, List.push_toArray, List.append_toArray, List.nil_append, List.cons_append]
  gi_wp2_with (first
    | (refine ⟨trivial, ?_⟩; gi_at_call 76; refine (Try.values_in Fence.wide _ trivial rfl _ _ _ _).mono ?_; rintro e w' ⟨rfl, rfl⟩)
    | (refine ⟨trivial, ?_⟩; gi_at_call 75; refine (Try.sorted_in Fence.wide 7 trivial trivial trivial trivial trivial rfl (by omega) hsort w.heap.size _ zs hne (by unfold maxLen; omega) hbytes _ (by simp) bO.cell hI2).mono ?_; rintro e W ⟨b', off', cap', rfl, hs, hb2⟩)
    | (refine ⟨trivial, ?_⟩; gi_at_call 29; refine (Try.quorum_in Fence.wide _ trivial rfl zs.length h0 (by omega) _).mono ?_; rintro e w' ⟨rfl, rfl⟩))
  go_ret
  refine ⟨?_, hB.trans (hb2.mono (by simp))⟩
  have hml : (zs.mergeSort fun x y => decide (x ≤ y)).length = zs.length := List.length_mergeSort ..
  simp [List.getD_eq_getElem?_getD, hidx]
end Go.Proofs

/-
  DERIVED: THE SHELF's CONTRACTS AT THIS DUMP, IN PLAIN WORDS (tools/lay-plain.mjs out of 'TrySort.lean', which tools/lay-shelf.mjs wrote): THE SAME DECLARATIONS UNDER THE SAME NAMES: 'import', 'namespace', 'open', 'def', 'theorem' AND NOTHING ELSE: no command of the shelf's: FOR A HAND-IN. Each laying: the table of numbers ('.._ren') and one theorem, a field a fact of the dump's own or the kernel's comparison; each contract: ONE APPLICATION.
-/
namespace Go.Proofs
open Go.Shelf
def Try.l53_ren : Go.Shelf.Ren := ⟨fun | 53 => 94 | 64 => 103 | 63 => 102 | 78 => 116 | 79 => 117 | 70 => 107 | 71 => 108 | 72 => 109 | 73 => 110 | 74 => 111 | 75 => 112 | 59 => 113 | 76 => 114 | 77 => 115 | 88 => 122 | 89 => 123 | 90 => 124 | 91 => 125 | 92 => 126 | 68 => 99 | 96 => 129 | n => n, fun | 22 => 58 | 23 => 2 | 3 => 3 | 51 => 56 | 0 => 0 | 67 => 147 | 69 => 83 | 4 => 4 | 61 => 139 | 60 => 138 | 44 => 144 | 5 => 5 | 9 => 9 | 75 => 150 | 79 => 153 | 83 => 157 | 84 => 158 | n => n, fun | n => n⟩
theorem Try.l53 : Go.Proofs.SlLaysN.n53 Try.prog Try.l53_ren := {
  mixed := by kernel_rfl
  f53 := ⟨Try.f94.name, by decide, Try.func94.trans (congrArg some (by kernel_rfl))⟩
  f59 := ⟨Try.f113.name, by decide, Try.func113.trans (congrArg some (by kernel_rfl))⟩
  f63 := ⟨Try.f102.name, by decide, Try.func102.trans (congrArg some (by kernel_rfl))⟩
  f64 := Try.func103.trans (congrArg some (by kernel_rfl))
  f68 := ⟨Try.f99.name, by decide, Try.func99.trans (congrArg some (by kernel_rfl))⟩
  f70 := ⟨Try.f107.name, by decide, Try.func107.trans (congrArg some (by kernel_rfl))⟩
  f71 := ⟨Try.f108.name, by decide, Try.func108.trans (congrArg some (by kernel_rfl))⟩
  f72 := ⟨Try.f109.name, by decide, Try.func109.trans (congrArg some (by kernel_rfl))⟩
  f73 := ⟨Try.f110.name, by decide, Try.func110.trans (congrArg some (by kernel_rfl))⟩
  f74 := ⟨Try.f111.name, by decide, Try.func111.trans (congrArg some (by kernel_rfl))⟩
  f75 := ⟨Try.f112.name, by decide, Try.func112.trans (congrArg some (by kernel_rfl))⟩
  f76 := ⟨Try.f114.name, by decide, Try.func114.trans (congrArg some (by kernel_rfl))⟩
  f77 := ⟨Try.f115.name, by decide, Try.func115.trans (congrArg some (by kernel_rfl))⟩
  f78 := Try.func116.trans (congrArg some (by kernel_rfl))
  f79 := Try.func117.trans (congrArg some (by kernel_rfl))
  f88 := ⟨Try.f122.name, by decide, Try.func122.trans (congrArg some (by kernel_rfl))⟩
  f89 := Try.func123.trans (congrArg some (by kernel_rfl))
  f90 := Try.func124.trans (congrArg some (by kernel_rfl))
  f91 := ⟨Try.f125.name, by decide, Try.func125.trans (congrArg some (by kernel_rfl))⟩
  f92 := ⟨Try.f126.name, by decide, Try.func126.trans (congrArg some (by kernel_rfl))⟩
  f96 := ⟨Try.f129.name, by decide, Try.func129.trans (congrArg some (by kernel_rfl))⟩
  t0 := Try.underlying0
  a0 := Try.isAgg0
  z0 := Try.sizeOf0
  v0 := Try.zeroValue0
  t3 := Try.underlying3
  a3 := Try.isAgg3
  z3 := Try.sizeOf3
  v3 := Try.zeroValue3
  t4 := Try.underlying4
  a4 := Try.isAgg4
  z4 := Try.sizeOf4
  v4 := Try.zeroValue4
  t5 := Try.underlying5
  a5 := Try.isAgg5
  z5 := Try.sizeOf5
  v5 := Try.zeroValue5
  t9 := Try.underlying9
  a9 := Try.isAgg9
  z9 := Try.sizeOf9
  v9 := Try.zeroValue9
  t22 := Try.underlying58
  a22 := Try.isAgg58
  z22 := Try.sizeOf58
  v22 := Try.zeroValue58
  t23 := Try.underlying2
  a23 := Try.isAgg2
  z23 := Try.sizeOf2
  v23 := Try.zeroValue2
  t44 := Try.underlying144
  a44 := Try.isAgg144
  z44 := Try.sizeOf144
  v44 := Try.zeroValue144
  t51 := Try.underlying56
  a51 := Try.isAgg56
  z51 := Try.sizeOf56
  v51 := Try.zeroValue56
  t60 := Try.underlying138
  a60 := Try.isAgg138
  z60 := Try.sizeOf138
  v60 := Try.zeroValue138
  t61 := Try.underlying139
  a61 := Try.isAgg139
  z61 := Try.sizeOf139
  v61 := Try.zeroValue139
  t67 := Try.underlying147
  a67 := Try.isAgg147
  z67 := Try.sizeOf147
  v67 := Try.zeroValue147
  t69 := Try.underlying83
  a69 := Try.isAgg83
  z69 := Try.sizeOf83
  v69 := Try.zeroValue83
  t75 := Try.underlying150
  a75 := Try.isAgg150
  z75 := Try.sizeOf150
  v75 := Try.zeroValue150
  t79 := Try.underlying153
  a79 := Try.isAgg153
  z79 := Try.sizeOf153
  v79 := Try.zeroValue153
  t83 := Try.underlying157
  a83 := Try.isAgg157
  z83 := Try.sizeOf157
  v83 := Try.zeroValue157
  t84 := Try.underlying158
  a84 := Try.isAgg158
  z84 := Try.sizeOf158
  v84 := Try.zeroValue158 }
end Go.Proofs

/- 'view.Reached' as a function that stands outside. -/
namespace Go.Proofs
open Go.RowKit Go.Shelf Go.Sort
theorem Try.sorts (m : Nat) : Try.SortsIn Fence.wide m := fun blk off cap ss W hH hblk hsz => callsIn_wide.2 (AnyG.slices_Sort_int Try.l53 blk off cap ss W hH hblk hsz)
end Go.Proofs
namespace Go.Ab
open Go
theorem intsOf_eq : ∀ {es : List (List PV)} {l : List Int}, intsOf es = some l → es = l.map encI
  | [], l, h => by
    cases h
    rfl
  | e :: es, l, h => by
    unfold intsOf at h
    split at h
    · rename_i hh
      cases hh
    · rename_i n es' hh
      cases hh
      split at h
      · rename_i l' hl
        cases h
        rw [intsOf_eq hl]
        rfl
      · cases h
    · cases h
theorem below_junk {w w' : World} (h : RowKit.Below w.heap.size w w') : w.grownBy w' none := ⟨h.os, h.tape, h.output, h.size, fun k hk _ => h.block k hk⟩
theorem reached_ok {l : List Int} (hl : l.length * 8 ≤ 140737488351232) (m : Mem) : CallsOk Go.Proofs.Try.prog 37 [.c (.p (.sl (l.map encI)))] m (.ret (mkI .i64 (reachedZ l)), m) where
  fn := ⟨_, Go.Proofs.Try.func37, rfl⟩
  keeps := .refl _
  run G w vs hR ha := by
    obtain ⟨v, rfl⟩ : ∃ v, vs = #[v] := by
      have := ha.1
      match vs, this with
      | ⟨[v]⟩, _ => exact ⟨v, rfl⟩
    have hv := ha.2 0 _ v rfl rfl
    have fin : ∀ {w' : World}, RowKit.Below w.heap.size w w' → Post G m w (.ret (mkI .i64 (reachedZ l)), m) (.returned (.int .i64 (reachedZ l))) w' := fun hb =>
      ⟨_, G, rfl, .junk (below_junk hb), hR.junk (below_junk hb), .e (.c (.p (.c _ rfl)))⟩
    cases hv with
    | c hv =>
      cases hv with
      | p hv =>
        cases hv with
        | sl es A n cap k cv hn hcap hA h =>
          by_cases h0 : l = []
          · subst h0
            obtain rfl : n = 0 := by simpa using hn.symm
            refine (Go.Proofs.Try.reached_none A cap w).mono ?_
            rintro e w' ⟨rfl, rfl⟩
            have h00 : reachedZ [] = 0 := by simp [reachedZ]
            have hh := fin (.refl _ w)
            rw [h00] at hh ⊢
            exact hh
          · have hpos : 0 < n := by
              rw [← hn]
              simp
              exact List.length_pos_iff.2 h0
            obtain ⟨b, o, rfl, hb, hc⟩ := hA hpos
            have hn' : l.length = n := by simpa using hn
            subst hn'
            refine (Go.Proofs.Try.reached_some (Go.Proofs.Try.sorts 6) b o cap l h0 hl w hb.1 fun j hj => ?_).mono ?_
            · have he : (l.map encI)[j]? = some (encI l[j]) := by simp [hj]
              obtain ⟨h1, h2⟩ := hc j _ he
              have hk : k = 1 := h1.symm
              subst hk
              have h3 := h2 0 _ rfl
              have h4 := h j _ 0 _ he rfl
              rw [Nat.mul_one, Nat.add_zero] at h3
              rw [h3]
              have h5 : cv j 0 = .int .i64 l[j] := by
                generalize cv j 0 = c at h4
                cases h4
                rfl
              rw [h5]
              simp [hj]
            · rintro e w' ⟨rfl, hb'⟩
              exact fin hb'
theorem ext_ok : ∀ g f args m out, E.ext g = some f → f args m = some out → CallsOk E.P g args m out := by
  intro g f args m out hf h
  have : E.ext g = extF g := rfl
  rw [this] at hf
  unfold extF at hf
  split at hf
  · cases hf
    dsimp only at h
    split at h
    · rename_i es
      simp only [Option.bind_eq_some_iff] at h
      obtain ⟨l, hl, h2⟩ := h
      obtain rfl := intsOf_eq hl
      cases hb : decide (l.length * 8 ≤ reachBytes') with
      | false => rw [hb] at h2; cases h2
      | true =>
        rw [hb, cond_true] at h2
        cases h2
        exact reached_ok (of_decide_eq_true hb) m
    · cases h
  · cases hf
end Go.Ab
