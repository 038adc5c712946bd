/- The contracts of vpath.Parse, strings.Join, slices.Clone. -/
import Derived.Test.YtjbilloofeedgaaPp
import Derived.Shelf.Strings.OnBuilder
import Derived.Ground.NamesProg
import Derived.Test.YtjbilloofeedgaaProg
import Derived.Test.YtjbilloofeedgaaFb
import Derived.OwnWalkIn
import Derived.TacticsInMore
import Derived.Test.YtjbilloofeedgaaPx
set_option linter.unusedVariables false
set_option linter.unusedSimpArgs false
/- vpath.Parse itself. -/
namespace Go.Proofs
open Go.RowKit Go.Shelf Go.Lib Go.Maps

attribute [local go_sem] Oper.semAt_some
theorem run_loadVar1 {w : World} {a : Nat} {v : Value} {t : TypeId} {e : TypeId} (ht : Try.prog.underlying t = some (.slice e)) (h : w.cell? ⟨a, 0, none⟩ = some v) : (loadVar t ⟨a, 0, none⟩).run Try.prog w = .ok v w := by
  simp [loadVar, go_sem, h, run_underlying ht, isAgg]
theorem run_loadVar2 {w : World} {a : Nat} {v : Value} {t : TypeId} {k : IntKind} (ht : Try.prog.underlying t = some (.int k)) (h : w.cell? ⟨a, 0, none⟩ = some v) : (loadVar t ⟨a, 0, none⟩).run Try.prog w = .ok v w := by
  simp [loadVar, go_sem, h, run_underlying ht, isAgg]
theorem Try.underlying24' : Try.prog.underlying 24 = some (.int .i64) := by kernel_rfl
set_option maxRecDepth 100000 in
theorem Try.resultsP {tmps : Array Value} {w : World} {a b : Nat} {v u : Value} (hp : tmps.getD 2 undef = .pointer (some ⟨a, 0, none⟩)) (hq : tmps.getD 3 undef = .pointer (some ⟨b, 0, none⟩))
    (ha : w.cell? ⟨a, 0, none⟩ = some v) (hb : w.cell? ⟨b, 0, none⟩ = some u) : (results Try.f12 tmps).run Try.prog w = .ok (.tuple #[v, u]) w := by
  have hr : Try.f12.results = #[.cell 2 23, .cell 3 24] := rfl
  have hp' : tmps[2]?.getD undef = .pointer (some ⟨a, 0, none⟩) := by simpa using hp
  have hq' : tmps[3]?.getD undef = .pointer (some ⟨b, 0, none⟩) := by simpa using hq
  simp [results, hr, hp', hq', asAddr, Sem.run_bind, Result.andThen, run_loadVar1 Try.underlying23 ha, run_loadVar2 Try.underlying24' hb]
end Go.Proofs

/- vpath.Parse: what its rounds keep. -/
namespace Go.Proofs
open Go.RowKit Go.Shelf Go.Lib Go.Maps

theorem pcs_len : ∀ (k : Nat) (l : List UInt8), (pcs k l).length ≤ k
  | 0, _ => by simp [pcs]
  | k + 1, l => by
    unfold pcs
    split
    · simp
    · have := pcs_len k (Lib.cut l [47]).2.1
      simp
      omega
theorem pieces_len (s : ByteArray) : (pieces s).length ≤ s.size := pcs_len _ _
/-- What a round of Parse keeps. -/
structure PInv (w : World) (pre : List ByteArray) (W : World) : Prop where
  ex : ∃ v, Boxed W (w.heap.size + 2) 23 v ∧ W.ownsRow (w.heap.size + 4) 9 1 v (foldN pre).length ((foldN pre).map Value.string)
  r2 : Boxed W w.heap.size 23 (.slice none 0 0)
  r3 : Boxed W (w.heap.size + 1) 24 (.int .i64 0)
  sz : w.heap.size + 4 ≤ W.heap.size
  below : Below w.heap.size w W
  short : ∀ p ∈ pre, ¬ 16 < p.size
/-- What holds behind a name that is too long. -/
structure PBad (w : World) (c : Code) (pre : List ByteArray) (W : World) : Prop where
  code : c = .ret
  r2 : Boxed W w.heap.size 23 (.slice none 0 0)
  r3 : Boxed W (w.heap.size + 1) 24 (.int .i64 41)
  below : Below w.heap.size w W
  long : ∃ p ∈ pre, 16 < p.size
theorem box_ne {W : World} {B k : Nat} {t : TypeId} {v : Value} (h : Boxed W B t v) (hk : ∃ o, W.heap[k]? = some o ∧ o.isCells = false) : B ≠ k := by
  rintro rfl
  obtain ⟨o, ho, hc⟩ := hk
  rw [show W.heap[B]? = _ from h] at ho
  cases ho
  cases hc
theorem PInv.kept {w : World} {pre : List ByteArray} {W W' : World} {row : Option Nat} (h : PInv w pre W) (hg : W.grownBy W' row) (hr : ∀ k, row = some k → w.heap.size ≤ k ∧ (k = w.heap.size + 3 ∨ ∃ o, W.heap[k]? = some o ∧ o.isCells = false)) : PInv w pre W' := by
  have hb : ∀ {B t v}, Boxed W B t v → B ≠ w.heap.size + 3 → some B ≠ row := fun hB hne e => by
    obtain ⟨_, h1 | h1⟩ := hr _ e.symm
    · exact hne h1
    · exact box_ne hB h1 rfl
  obtain ⟨v, hv, hrow⟩ := h.ex
  refine ⟨⟨v, hv.kept hg (hb hv (by omega)), hrow.kept hg ?_⟩, h.r2.kept hg (hb h.r2 (by omega)), h.r3.kept hg (hb h.r3 (by omega)), Nat.le_trans h.sz hg.size, h.below.grown hg h.below.size fun k e => (hr k e).1, h.short⟩
  rcases hrow.2 with ⟨rfl, _⟩ | ⟨g, cap, cur, rfl, hbg, hgb, _⟩
  · exact .inl rfl
  · refine .inr fun e => ?_
    obtain ⟨_, h1 | ⟨o, ho, hc⟩⟩ := hr g (by simpa [Value.ownBlock] using e.symm)
    · omega
    · rw [hgb] at ho
      cases ho
      cases hc
theorem PBad.kept {w : World} {c : Code} {pre : List ByteArray} {W W' : World} {row : Option Nat} (h : PBad w c pre W) (hg : W.grownBy W' row) (hr : ∀ k, row = some k → w.heap.size ≤ k ∧ (k = w.heap.size + 3 ∨ ∃ o, W.heap[k]? = some o ∧ o.isCells = false)) : PBad w c pre W' := by
  have hb : ∀ {B t v}, Boxed W B t v → B ≠ w.heap.size + 3 → some B ≠ row := fun hB hne e => by
    obtain ⟨_, h1 | h1⟩ := hr _ e.symm
    · exact hne h1
    · exact box_ne hB h1 rfl
  exact ⟨h.code, h.r2.kept hg (hb h.r2 (by omega)), h.r3.kept hg (hb h.r3 (by omega)), h.below.grown hg h.below.size fun k e => (hr k e).1, h.long⟩
theorem PInv.skip {w : World} {pre : List ByteArray} {W : World} {x : ByteArray} (h : PInv w pre W) (hx : x.data = #[] ∨ x.data = #[46]) : PInv w (pre ++ [x]) W := by
  refine ⟨?_, h.r2, h.r3, h.sz, h.below, ?_⟩
  · rw [foldN_snoc, stepN, if_pos hx]
    exact h.ex
  · intro p hp
    rcases List.mem_append.1 hp with hp | hp
    · exact h.short p hp
    · simp at hp
      subst hp
      show ¬ 16 < p.data.size
      rcases hx with hx | hx <;> rw [hx] <;> simp
/-- The names' box gets another value. -/
theorem PInv.store {w : World} {pre : List ByteArray} {W W1 : World} {x : ByteArray} {v v' : Value} {o : Obj} (h : PInv w pre W) (hv : Boxed W (w.heap.size + 2) 23 v) (hx : ¬ 16 < x.size)
    (hrow : W.ownsRow (w.heap.size + 4) 9 1 v (foldN pre).length ((foldN pre).map Value.string))
    (hown : W1.ownsRow (w.heap.size + 4) 9 1 v' (foldN (pre ++ [x])).length ((foldN (pre ++ [x])).map Value.string))
    (hg : (W.alloc o).grownBy W1 v.ownBlock ∨ W1 = W) :
    Boxed W1 (w.heap.size + 2) 23 v ∧ PInv w (pre ++ [x]) (W1.setCell ⟨w.heap.size + 2, 0, none⟩ v') ∧ KeepsOthers W (W1.setCell ⟨w.heap.size + 2, 0, none⟩ v') ∧ KeepsCell (w.heap.size + 3) W (W1.setCell ⟨w.heap.size + 2, 0, none⟩ v') := by
  have hob : ∀ k, v.ownBlock = some k → w.heap.size + 4 ≤ k ∧ ∃ o, W.heap[k]? = some o ∧ o.isCells = true := by
    intro k hk
    rcases hrow.2 with ⟨rfl, _⟩ | ⟨g, cap, cur, rfl, hbg, hgb, _⟩
    · cases hk
    · obtain rfl : g = k := by simpa [Value.ownBlock] using hk
      exact ⟨hbg, _, hgb, rfl⟩
  have hgr : W.grownBy W1 v.ownBlock := by
    rcases hg with hg | rfl
    · refine ⟨hg.os, hg.tape, hg.output, by have := hg.size; simp at this; omega, fun k hk hne => (hg.block k (by simp; omega) hne).trans (Below.heap_alloc _ _ _ hk)⟩
    · exact ⟨rfl, rfl, rfl, Nat.le_refl _, fun _ _ _ => rfl⟩
  have hne : ∀ B, B < w.heap.size + 4 → some B ≠ v.ownBlock := fun B hB e => by
    have := (hob B e.symm).1
    omega
  have hv1 : Boxed W1 (w.heap.size + 2) 23 v := hv.kept hgr (hne _ (by omega))
  have hs := grownBy_setCell' W1 (w.heap.size + 2) v'
  have h3 : (W1.setCell ⟨w.heap.size + 2, 0, none⟩ v').heap[w.heap.size + 3]? = W.heap[w.heap.size + 3]? :=
    (Below.heap_setCell _ _ _ _ (by show w.heap.size + 3 ≠ w.heap.size + 2; omega)).trans (hgr.block _ (by have := h.sz; omega) (hne _ (by omega)))
  refine ⟨hv1, ⟨⟨v', hv1.set v', hown.kept hs ?_⟩, (h.r2.kept hgr (hne _ (by omega))).kept hs (by simp), (h.r3.kept hgr (hne _ (by omega))).kept hs (by simp), ?_, ?_, ?_⟩, ?_, ?_⟩
  · rcases hown.2 with ⟨rfl, _⟩ | ⟨g, cap, cur, rfl, hbg, hgb, _⟩
    · exact .inl rfl
    · refine .inr fun e => ?_
      have : g = w.heap.size + 2 := by simpa [Value.ownBlock] using e
      omega
  · have := hs.size
    have := hgr.size
    have := h.sz
    omega
  · exact (h.below.grown hgr h.below.size fun k e => by have := (hob k e).1; omega).setCell (p := ⟨w.heap.size + 2, 0, none⟩) (by show w.heap.size ≤ w.heap.size + 2; omega) v'
  · intro p hp
    rcases List.mem_append.1 hp with hp | hp
    · exact h.short p hp
    · simp at hp
      subst hp
      exact hx
  · exact (KeepsOthers.of_grownBy hgr fun j o ej hj => by
      obtain ⟨_, o', ho', hc⟩ := hob j ej
      rw [hj] at ho'
      cases ho'
      exact hc).trans (KeepsOthers.setCell _ _ _)
  · exact ⟨by simp only [World.cell?, h3], by simp only [World.frozen?, h3]⟩
theorem Try.pieces_seq (s : ByteArray) (hs : s.size < 4294967281) (Bs : Nat) (w : World) (hB : Boxed w Bs 9 (.string s)) :
    SeqCell Fence.wide 7 Try.prog 78 #[.pointer (some ⟨Bs, 0, none⟩)] (fun x : ByteArray => #[Value.string x]) (KeepsCell Bs) Bs (fun ys => ys = pieces s) (fun pre => pre <+: pieces s) (pieces s).length w := by
  intro l J Jx W hW hJ _ hJB _ hY h0
  have hB' : Boxed W Bs 9 (.string s) := (hW.block Bs hB.lt).trans hB
  exact Try.pieces1 7 (by omega) l Bs _ s hs J Jx hY (Nat.le_refl _) W hJ hJB hB'.cell hB'.frozen h0
/-- The results are stored, the rounds' deferred calls taken. -/
theorem parse_fin {w W : World} {D : Nat} {a b : Value} (o' : Obj) (v u : Value) {m : Nat} {xs : List Value} {dl : Option (List Deferred)} (h2 : Boxed W w.heap.size 23 a) (h3 : Boxed W (w.heap.size + 1) 24 b) (hb : Below w.heap.size w W)
    (hK : W.heap[D]? = some (.deferred dl)) (hD : w.heap.size ≤ D) (hrow : W.ownsRow (w.heap.size + 4) 9 1 v m xs) :
    ((W.setCell ⟨w.heap.size, 0, none⟩ v).setCell ⟨w.heap.size + 1, 0, none⟩ u).heap[D]? = some (.deferred dl) ∧
    Boxed (((W.setCell ⟨w.heap.size, 0, none⟩ v).setCell ⟨w.heap.size + 1, 0, none⟩ u).putObj D o') w.heap.size 23 v ∧
    Boxed (((W.setCell ⟨w.heap.size, 0, none⟩ v).setCell ⟨w.heap.size + 1, 0, none⟩ u).putObj D o') (w.heap.size + 1) 24 u ∧
    (((W.setCell ⟨w.heap.size, 0, none⟩ v).setCell ⟨w.heap.size + 1, 0, none⟩ u).putObj D o').ownsRow w.heap.size 9 1 v m xs ∧
    Below w.heap.size w (((W.setCell ⟨w.heap.size, 0, none⟩ v).setCell ⟨w.heap.size + 1, 0, none⟩ u).putObj D o') := by
  have n2 : w.heap.size ≠ D := box_ne h2 ⟨_, hK, rfl⟩
  have n3 : w.heap.size + 1 ≠ D := box_ne h3 ⟨_, hK, rfl⟩
  have g1 := grownBy_setCell' W w.heap.size v
  have g2 := grownBy_setCell' (W.setCell ⟨w.heap.size, 0, none⟩ v) (w.heap.size + 1) u
  have hK' : ((W.setCell ⟨w.heap.size, 0, none⟩ v).setCell ⟨w.heap.size + 1, 0, none⟩ u).heap[D]? = some (.deferred dl) :=
    ((Below.heap_setCell _ _ _ _ (by show D ≠ w.heap.size + 1; exact n3.symm)).trans (Below.heap_setCell _ _ _ _ (by show D ≠ w.heap.size; exact n2.symm))).trans hK
  have g3 := grownBy_putObj' ((W.setCell ⟨w.heap.size, 0, none⟩ v).setCell ⟨w.heap.size + 1, 0, none⟩ u) D o'
  have hrow0 : W.ownsRow w.heap.size 9 1 v m xs := by
    refine ⟨hrow.1, ?_⟩
    rcases hrow.2 with h | ⟨g, cap, cur, e, hbg, rest⟩
    · exact .inl h
    · exact .inr ⟨g, cap, cur, e, by omega, rest⟩
  have hne : ∀ k, k < w.heap.size + 4 → v.ownBlock = none ∨ v.ownBlock ≠ some k := by
    intro k hk
    rcases hrow.2 with ⟨h, _⟩ | ⟨g, cap, cur, rfl, hbg, _⟩
    · exact .inl (by rw [h]; rfl)
    · refine .inr fun e => ?_
      have : g = k := by simpa [Value.ownBlock] using e
      omega
  have r1 := (hrow0.kept g1 (hne w.heap.size (by omega))).kept g2 (hne (w.heap.size + 1) (by omega))
  have s3 := g3.size
  refine ⟨hK', ((h2.set v).kept g2 (by simp)).kept g3 (by simpa using n2), ((h3.kept g1 (by simp)).set u).kept g3 (by simpa using n3), ownsRow_putObj r1 o' hK' rfl, ?_⟩
  exact (((hb.grown g1 hb.size fun k e => by cases e; exact Nat.le_refl _).grown g2 (Nat.le_trans hb.size g1.size) fun k e => by cases e; omega)).grown g3 (Nat.le_trans hb.size (Nat.le_trans g1.size g2.size)) fun k e => by cases e; exact hD
end Go.Proofs

/- vpath.Parse itself. -/
namespace Go.Proofs
open Go.RowKit Go.Shelf Go.Lib Go.Maps

attribute [local go_sem] Oper.semAt_some
theorem parseZ_long {s : ByteArray} (h : 256 < s.size) : parseZ s = ([], 2) := by
  unfold parseZ
  rw [if_pos h]
theorem parseZ_path {s : ByteArray} (h : ¬ 256 < s.size) (h2 : slashed s = false) : parseZ s = ([], 40) := by
  unfold parseZ
  rw [if_neg h, if_pos h2]
theorem parseZ_byte {s : ByteArray} (h : ¬ 256 < s.size) (h2 : slashed s = true) {i : Nat} (hi : i < s.size) (hb : goodB s[i] = false) : parseZ s = ([], 40) := by
  unfold parseZ
  have : s.data.toList.all goodB = false := by
    rw [List.all_eq_false]
    have hi' : i < s.data.size := hi
    refine ⟨s.data[i], by simp, ?_⟩
    have hb' : goodB s.data[i] = false := hb
    simp [hb']
  rw [if_neg h, if_neg (by simp [h2]), if_pos this]
theorem good_all {s : ByteArray} (h : ∀ j (hj : j < s.size), goodB s[j] = true) : s.data.toList.all goodB = true := by
  rw [List.all_eq_true]
  intro x hx
  obtain ⟨i, hi, rfl⟩ := List.getElem_of_mem hx
  have hi' : i < s.data.size := by simpa using hi
  have := h i hi'
  exact this
theorem parseZ_rest {s : ByteArray} (h : ¬ 256 < s.size) (h2 : slashed s = true) (h3 : ∀ j (hj : j < s.size), goodB s[j] = true) :
    parseZ s = if (pieces s).any (fun p => decide (16 < p.size)) = true then ([], 41) else if 8 < (foldN (pieces s)).length then ([], 42) else (foldN (pieces s), 0) := by
  conv => lhs; unfold parseZ
  rw [if_neg h, if_neg (by simp [h2]), if_neg (by simp [good_all h3])]
set_option maxRecDepth 100000 in
set_option maxHeartbeats 4000000 in
theorem Try.parse_c (s : ByteArray) (hs0 : s.size ≤ 9223372036854775807) (w : World) : Calls Try.prog 12 #[.string s] w fun e w' =>
    ∃ v, e = .returned (.tuple #[v, .int .i64 (parseZ s).2]) ∧ w'.ownsRow w.heap.size 9 1 v (parseZ s).1.length ((parseZ s).1.map Value.string) ∧ Below w.heap.size w w' := by
  refine (callsIn_wide (n := 8)).1 ?_
  refine callsIn_of_wp_marks Try.func12 rfl trivial ?_ rfl
  simp only [Try.ntmps12, List.size_toArray, List.length_cons, List.length_nil, Nat.reduceAdd, Nat.reduceSub, Array.replicate_succ, Array.replicate_zero, List.push_toArray, List.append_toArray, List.nil_append, List.cons_append]
  have hend : ∀ (n : Int) (o : Obj), o = .cells #[.int .i64 n] 24 → Below w.heap.size w ((w.alloc (.cells #[.slice none 0 0] 23)).alloc o) := fun n o ho =>
    ((Below.refl _ w).alloc (Nat.le_refl _) _).alloc (by simp) _
  by_cases hlong : 256 < s.size
  · rw [parseZ_long hlong]
    gi_wp2
    exact ⟨_, Try.resultsP rfl rfl (by simp) (by simp), _, rfl, World.ownsRow_nil _ _ _ _, hend _ _ rfl⟩
  have hs : s.size < 4294967281 := by omega
  by_cases hsl : slashed s = false
  · rw [parseZ_path hlong hsl]
    gi_wp2_with (refine ⟨trivial, ?_⟩; gi_at_call 39; refine (callsIn_wide.2 (Try.prefix39 s hs _)).mono ?_; rintro e w' ⟨rfl, rfl⟩)
    exact ⟨_, Try.resultsP rfl rfl (by simp) (by simp), _, rfl, World.ownsRow_nil _ _ _ _, hend _ _ rfl⟩
  have hsl' : slashed s = true := by simpa using hsl
  gi_wp2_with (refine ⟨trivial, ?_⟩; gi_at_call 39; refine (callsIn_wide.2 (Try.prefix39 s hs _)).mono ?_; rintro e w' ⟨rfl, rfl⟩)
  obtain ⟨W0, hW0⟩ : ∃ W0, W0 = (w.alloc (.cells #[.slice none 0 0] 23)).alloc (.cells #[.int .i64 0] 24) := ⟨_, rfl⟩
  gi_loopw [15] (fun i wr => ∃ k : Nat, k ≤ s.size ∧ i = .int .i64 k ∧ (∀ j (hj : j < s.size), j < k → goodB s[j] = true) ∧ wr = W0)
    (fun i _ => s.size - (RowKit.intOf i).toNat)
  case atStart => exact ⟨0, Nat.zero_le _, rfl, fun j _ hj => absurd hj (by omega), hW0.symm⟩
  case round =>
    obtain ⟨k, hk, rfl, hall, rfl⟩ := hrel
    by_cases hlt : k < s.size
    · have hx := s[k].toNat_lt
      cases hg : goodB s[k] with
      | false =>
        obtain ⟨g1, g2⟩ : ((s[k].toNat : Int) != 47) = true ∧ plainB s[k].toNat = false := by
          have hg' : (s[k] == 47 || plainB s[k].toNat) = false := hg
          simp only [Bool.or_eq_false_iff, beq_eq_false_iff_ne] at hg'
          refine ⟨?_, hg'.2⟩
          simp only [bne_iff_ne, ne_eq]
          intro hh
          exact hg'.1 (UInt8.toNat_inj.1 (by have : s[k].toNat = 47 := by omega
                                             exact this))
        have hpz := parseZ_byte hlong hsl' hlt hg
        gi_wp2_with (first | (refine ⟨trivial, ?_⟩; gi_at_call 40; refine (callsIn_wide.2 (Try.plain_c (s[k].toNat : Int) (by omega) (by omega) _)).mono ?_; rintro e w' ⟨rfl, rfl⟩; rw [g2]) | refine ⟨trivial, ?_⟩)
        refine ⟨_, Try.resultsP (v := .slice none 0 0) (u := .int .i64 40) rfl rfl (by simp) (by simp), ?_⟩
        rw [hpz]
        exact ⟨_, rfl, World.ownsRow_nil _ _ _ _, hend _ _ rfl⟩
      | true =>
        have hnext : ∀ j (hj : j < s.size), j < k + 1 → goodB s[j] = true := by
          intro j hj hjk
          by_cases hjk' : j < k
          · exact hall j hj hjk'
          · obtain rfl : j = k := by omega
            exact hg
        by_cases h47 : s[k].toNat = 47
        · have g1 : ((s[k].toNat : Int) != 47) = false := by simp [h47]
          gi_wp2_with (first | (exfalso; omega) | (refine ⟨trivial, ?_⟩))
          exact ⟨⟨k + 1, by omega, by simp, hnext, hW0.symm⟩, by simp [RowKit.intOf]; omega⟩
        · have g1 : ((s[k].toNat : Int) != 47) = true := by
            simp only [bne_iff_ne, ne_eq]
            omega
          have g2 : plainB s[k].toNat = true := by
            have hg' : (s[k] == 47 || plainB s[k].toNat) = true := hg
            rcases Bool.or_eq_true_iff.1 hg' with h | h
            · exact absurd (congrArg UInt8.toNat (beq_iff_eq.1 h)) h47
            · exact h
          gi_wp2_with (first | (refine ⟨trivial, ?_⟩; gi_at_call 40; refine (callsIn_wide.2 (Try.plain_c (s[k].toNat : Int) (by omega) (by omega) _)).mono ?_; rintro e w' ⟨rfl, rfl⟩; rw [g2]) | refine ⟨trivial, ?_⟩)
          exact ⟨⟨k + 1, by omega, by simp, hnext, hW0.symm⟩, by simp [RowKit.intOf]; omega⟩
    · obtain rfl : k = s.size := by omega
      gi_wp2_with (refine ⟨trivial, ?_⟩; gi_at_call 41; refine (Try.pieces_in Fence.wide _ trivial rfl _ _).mono ?_; rintro e w' ⟨rfl, rfl⟩)
      have hall' : ∀ j (hj : j < s.size), goodB s[j] = true := fun j hj => hall j hj hj
      have hrest := parseZ_rest hlong hsl' hall'
      have hplen := pieces_len s
      obtain ⟨i0, hi, hz0, hz1, hz2⟩ := info_parts Try.info9
      have hB0 : Below w.heap.size w ((((w.alloc (.cells #[.slice none 0 0] 23)).alloc (.cells #[.int .i64 0] 24)).alloc (.cells #[.slice none 0 0] 23)).alloc (.cells #[.string s] 9)) :=
        ((((Below.refl _ w).alloc (Nat.le_refl _) _).alloc (by simp) _).alloc (by simp; omega) _).alloc (by simp; omega) _
      have hI0 : PInv w [] ((((w.alloc (.cells #[.slice none 0 0] 23)).alloc (.cells #[.int .i64 0] 24)).alloc (.cells #[.slice none 0 0] 23)).alloc (.cells #[.string s] 9)) := by
        refine ⟨⟨.slice none 0 0, ?_, World.ownsRow_nil _ _ _ _⟩, ?_, ?_, by simp, hB0, by simp⟩
        · have h := (Boxed.new ((w.alloc (.cells #[.slice none 0 0] 23)).alloc (.cells #[.int .i64 0] 24)) 23 (.slice none 0 0)).alloc (.cells #[.string s] 9)
          simp only [World.size_alloc] at h
          exact h
        · exact (((Boxed.new w 23 _).alloc _).alloc _).alloc _
        · have h := ((Boxed.new (w.alloc (.cells #[.slice none 0 0] 23)) 24 (.int .i64 0)).alloc (.cells #[.slice none 0 0] 23)).alloc (.cells #[.string s] 9)
          simp only [World.size_alloc] at h
          exact h
      have hS : Boxed ((((w.alloc (.cells #[.slice none 0 0] 23)).alloc (.cells #[.int .i64 0] 24)).alloc (.cells #[.slice none 0 0] 23)).alloc (.cells #[.string s] 9)) (w.heap.size + 3) 9 (.string s) := by
        have h := Boxed.new (((w.alloc (.cells #[.slice none 0 0] 23)).alloc (.cells #[.int .i64 0] 24)).alloc (.cells #[.slice none 0 0] 23)) 9 (.string s)
        simp only [World.size_alloc] at h
        exact h
      refine' wpIn_rangeFunc_cell rfl (by omega) (gf := 78) (lb := #[.pointer (some ⟨w.heap.size + 3, 0, none⟩)]) rfl trivial (enters_of Try.func78 (by kernel_rfl) rfl)
        (w.heap.size + 3) (by simp) (Try.pieces_seq s hs (w.heap.size + 3) _ hS) ?hKt ?hKb (Below.refl _ _) (fun _ => rfl)
        (fun pre W => PInv w pre W) (fun c pre W => PBad w c pre W) ?hI ?hIx ?hIB ?hIxB hI0 _ ?hassign ?hbody ?hdone ?hstop
      case hKt => exact fun h1 h2 => ⟨h2.1.trans h1.1, h2.2.trans h1.2⟩
      case hKb =>
        intro W l o o' hl ho _ _
        have hne : w.heap.size + 3 ≠ l := by simp at hl; omega
        have h3 : (W.putObj l o').heap[w.heap.size + 3]? = W.heap[w.heap.size + 3]? := World.putObj_heap_other hne
        exact ⟨by simp only [World.cell?, h3], by simp only [World.frozen?, h3]⟩
      case hI =>
        intro pre W W' row h hg hr
        refine h.kept hg fun k e => ⟨?_, .inr (hr k e).2⟩
        have := (hr k e).1
        simp at this
        omega
      case hIx =>
        intro c pre W W' row h hg hr
        refine h.kept hg fun k e => ⟨?_, .inr (hr k e).2⟩
        have := (hr k e).1
        simp at this
        omega
      case hIB =>
        intro pre W v h
        exact h.kept (grownBy_setCell' _ _ _) fun k e => by cases e; exact ⟨by omega, .inl rfl⟩
      case hIxB =>
        intro c pre W v h
        exact h.kept (grownBy_setCell' _ _ _) fun k e => by cases e; exact ⟨by omega, .inl rfl⟩
      case hassign =>
        intro l x W K hK
        gi_wp2
        exact hK
      case hbody =>
        intro l pre x W hI hlt
        have hfl := foldN_len pre
        obtain ⟨v, hv, hrow⟩ := hI.ex
        have hc : W.cell? ⟨w.heap.size + 1 + 1, 0, none⟩ = some v := hv.cell
        have hfz : W.frozen? ⟨w.heap.size + 1 + 1, 0, none⟩ = false := hv.frozen
        by_cases hx : 16 < x.size
        · have c2 := hI.r2.cell
          have f2 := hI.r2.frozen
          have c3 := hI.r3.cell
          have f3 := hI.r3.frozen
          gi_wp2
          have k1 : KeepsOthers W ((W.setCell ⟨w.heap.size, 0, none⟩ (.slice none 0 0)).setCell ⟨w.heap.size + 1, 0, none⟩ (.int .i64 41)) := (KeepsOthers.setCell _ _ _).trans (KeepsOthers.setCell _ _ _)
          refine ⟨k1.from _, rfl, ?_, ?_, ?_, x, by simp, hx⟩
          · exact (hI.r2.set (.slice none 0 0)).kept (grownBy_setCell' _ _ _) (by simp)
          · exact (hI.r3.kept (grownBy_setCell' W w.heap.size (.slice none 0 0)) (by simp)).set _
          · exact (hI.below.setCell (p := ⟨w.heap.size, 0, none⟩) (Nat.le_refl _) _).setCell (p := ⟨w.heap.size + 1, 0, none⟩) (by show w.heap.size ≤ w.heap.size + 1; omega) _
        · have fin0 : (x.data = #[] ∨ x.data = #[46]) → PInv w (pre ++ [x]) W := fun h => hI.skip h
          by_cases h0 : x.data = #[]
          · obtain rfl : x = ⟨#[]⟩ := by
              obtain ⟨d⟩ := x
              congr 1
            have hP := fin0 (.inl rfl)
            gi_wp2
            exact ⟨KeepsFrom.refl _ _, ⟨rfl, rfl⟩, hP⟩
          by_cases h1 : x.data = #[46]
          · obtain rfl : x = ⟨#[46]⟩ := by
              obtain ⟨d⟩ := x
              congr 1
            have hP := fin0 (.inr rfl)
            gi_wp2
            exact ⟨KeepsFrom.refl _ _, ⟨rfl, rfl⟩, hP⟩
          by_cases h2 : x.data = #[46, 46]
          · obtain rfl : x = ⟨#[46, 46]⟩ := by
              obtain ⟨d⟩ := x
              congr 1
            have hst : foldN (pre ++ [⟨#[46, 46]⟩]) = (foldN pre).take ((foldN pre).length - 1) := by
              rw [foldN_snoc, stepN, if_neg (by simp), if_pos rfl]
            rcases hrow.2 with ⟨rfl, hz⟩ | ⟨g, cap, cur, rfl, _, _, _, _, _, _⟩
            · have hnil : foldN pre = [] := List.eq_nil_of_length_eq_zero hz
              obtain ⟨_, hP, hko, hkc⟩ := hI.store (v' := .slice none 0 0) (o := .cells #[] 9) hv hx hrow (by rw [hst, hnil]; exact World.ownsRow_nil _ _ _ _) (.inr rfl)
              have hz1 : (max (-1 : Int) 0).toNat = 0 := rfl
              gi_wp2
              exact ⟨hko.from _, hkc, hP⟩
            · have hz1 : (max ((foldN pre).length - 1 : Int) 0).toNat = (foldN pre).length - 1 := by omega
              have hrow' := ownsRow_take hrow (k := (foldN pre).length - 1) (by omega) rfl
              obtain ⟨_, hP, hko, hkc⟩ := hI.store (v' := .slice (some ⟨g, 0, none⟩) ((foldN pre).length - 1) cap) (o := .cells #[] 9) hv hx hrow (by
                have hl : (foldN (pre ++ [⟨#[46, 46]⟩])).length = (foldN pre).length - 1 := by
                  rw [hst, List.length_take]
                  omega
                rw [hl, hst, List.map_take]
                exact hrow') (.inr rfl)
              gi_wp2
              exact ⟨hko.from _, hkc, hP⟩
          · have e0 : x.toList.isEmpty = false := by
              rw [ByteArray.toList_eq]
              simpa using h0
            have e1 : (x.toList == [46]) = false := by
              rw [ByteArray.toList_eq, beq_eq_false_iff_ne]
              exact fun h => h1 (by have := congrArg List.toArray h; simpa using this)
            have e2 : (x.toList == [46, 46]) = false := by
              rw [ByteArray.toList_eq, beq_eq_false_iff_ne]
              exact fun h => h2 (by have := congrArg List.toArray h; simpa using this)
            have hst : foldN (pre ++ [x]) = foldN pre ++ [x] := by
              rw [foldN_snoc, stepN, if_neg (by simp [h0, h1]), if_neg h2]
            gi_wp2_with (gi_at_builtin; refine wpListIn_append_own _ rfl _ _ 23 rfl (w.heap.size + 4) 9 i0 (.string ⟨#[]⟩) 1 16 Try.underlying23 hi hz0 hz1 hz2 rfl (by decide) _ _ _ rfl (hrow.alloc _) ⟨W.heap.size, 0, none⟩ 1 1 [.string x] rfl rfl (cell_one_new _ _ _) (by simp [Value.oneCell']) (by unfold maxLen; omega) (by omega) (by have := hI.sz; simp; omega) ?_; intro v' w1 hown' hgrow _; obtain ⟨g', cap', rfl⟩ := ownsRow_succ hown'; obtain ⟨hv1, hP, hko, hkc⟩ := hI.store hv hx hrow (by rw [hst]; simpa using hown') (.inl hgrow); have hc1 : w1.cell? ⟨w.heap.size + 1 + 1, 0, none⟩ = some v := hv1.cell; have hf1 : w1.frozen? ⟨w.heap.size + 1 + 1, 0, none⟩ = false := hv1.frozen)
            exact ⟨hko.from _, hkc, hP⟩
      case hdone =>
        intro D xs W hD hxs hI hK
        subst hxs
        have hany : (pieces s).any (fun p => decide (16 < p.size)) = false := by
          rw [List.any_eq_false]
          intro p hp
          simpa using hI.short p hp
        rw [hany] at hrest
        obtain ⟨v, hv, hrow⟩ := hI.ex
        have hc : W.cell? ⟨w.heap.size + 1 + 1, 0, none⟩ = some v := hv.cell
        have c2 := hI.r2.cell
        have f2 := hI.r2.frozen
        have c3 := hI.r3.cell
        have f3 := hI.r3.frozen
        have hfl := foldN_len (pieces s)
        rcases hrow.2 with ⟨rfl, hz⟩ | ⟨g, cap, cur, rfl, _, _, _, _, _, _⟩
        · have h8 : ¬ 8 < (foldN (pieces s)).length := by omega
          rw [if_neg (by simp), if_neg h8] at hrest
          gi_wp2
          obtain ⟨hK', b2, b3, own, bel⟩ := parse_fin (.deferred none) (.slice none 0 0) (.int .i64 0) hI.r2 hI.r3 hI.below hK (by simp at hD; omega) hrow
          refine ⟨by simp, .inl ⟨_, _, rfl, run_takeDeferred hK', ?_⟩⟩
          refine ⟨_, Try.resultsP rfl rfl b2.cell b3.cell, ?_⟩
          rw [hrest]
          exact ⟨_, rfl, own, bel⟩
        · by_cases h8 : 8 < (foldN (pieces s)).length
          · rw [if_neg (by simp), if_pos h8] at hrest
            gi_wp2
            obtain ⟨hK', b2, b3, own, bel⟩ := parse_fin (.deferred none) (.slice none 0 0) (.int .i64 42) hI.r2 hI.r3 hI.below hK (by simp at hD; omega) (World.ownsRow_nil _ _ _ _)
            refine ⟨by simp, .inl ⟨_, _, rfl, run_takeDeferred hK', ?_⟩⟩
            refine ⟨_, Try.resultsP rfl rfl b2.cell b3.cell, ?_⟩
            rw [hrest]
            exact ⟨_, rfl, own, bel⟩
          · rw [if_neg (by simp), if_neg h8] at hrest
            gi_wp2
            obtain ⟨hK', b2, b3, own, bel⟩ := parse_fin (.deferred none) (.slice (some ⟨g, 0, none⟩) (foldN (pieces s)).length cap) (.int .i64 0) hI.r2 hI.r3 hI.below hK (by simp at hD; omega) hrow
            refine ⟨by simp, .inl ⟨_, _, rfl, run_takeDeferred hK', ?_⟩⟩
            refine ⟨_, Try.resultsP rfl rfl b2.cell b3.cell, ?_⟩
            rw [hrest]
            exact ⟨_, rfl, own, bel⟩
      case hstop =>
        intro D c pre W hD hpre hI hK
        obtain rfl := hI.code
        have hany : (pieces s).any (fun p => decide (16 < p.size)) = true := by
          obtain ⟨p, hp, hp2⟩ := hI.long
          rw [List.any_eq_true]
          exact ⟨p, hpre.subset hp, by simpa using hp2⟩
        rw [if_pos hany] at hrest
        gi_wp2
        have g3 := grownBy_putObj' W D (.deferred none)
        have hDw : w.heap.size ≤ D := by simp at hD; omega
        have b2 := hI.r2.kept g3 (by simpa using box_ne hI.r2 ⟨_, hK, rfl⟩)
        have b3 := hI.r3.kept g3 (by simpa using box_ne hI.r3 ⟨_, hK, rfl⟩)
        refine ⟨by simp, .inl ⟨_, _, rfl, run_takeDeferred hK, ?_⟩⟩
        refine ⟨_, Try.resultsP rfl rfl b2.cell b3.cell, ?_⟩
        rw [hrest]
        exact ⟨_, rfl, World.ownsRow_nil _ _ _ _, hI.below.grown g3 hI.below.size fun k e => by cases e; exact hDw⟩
end Go.Proofs

/-
  DERIVED: THE SHELF's CONTRACTS AT THIS DUMP, IN PLAIN WORDS (tools/lay-plain.mjs out of 'TryJoin.lean', which tools/lay-shelf.mjs wrote): THE SAME DECLARATIONS UNDER THE SAME NAMES: 'import', 'namespace', 'open', 'def', 'theorem' AND NOTHING ELSE: no command of the shelf's: FOR A HAND-IN. Each laying: the table of numbers ('.._ren') and one theorem, a field a fact of the dump's own or the kernel's comparison; each contract: ONE APPLICATION.
-/
namespace Go.Proofs
open Go.Shelf
def Try.lays156_ren : Go.Shelf.Ren := ⟨fun | 156 => 43 | 165 => 80 | 166 => 81 | 169 => 82 | 240 => 97 | 241 => 98 | 276 => 105 | 277 => 106 | n => n, fun | 31 => 23 | 9 => 9 | 3 => 3 | 4 => 4 | 0 => 0 | 20 => 20 | 72 => 108 | 76 => 112 | 70 => 106 | 37 => 38 | 75 => 111 | 127 => 129 | 164 => 135 | 5 => 5 | 80 => 114 | n => n, fun | n => n⟩
theorem Try.lays156 : Go.Proofs.Lays.n156 Try.prog Try.lays156_ren := {
  mixed := by kernel_rfl
  f156 := Try.func43.trans (congrArg some (by kernel_rfl))
  f165 := Try.func80.trans (congrArg some (by kernel_rfl))
  f166 := Try.func81.trans (congrArg some (by kernel_rfl))
  f169 := Try.func82.trans (congrArg some (by kernel_rfl))
  f240 := Try.func97.trans (congrArg some (by kernel_rfl))
  f241 := Try.func98.trans (congrArg some (by kernel_rfl))
  f276 := Try.func105.trans (congrArg some (by kernel_rfl))
  f277 := Try.func106.trans (congrArg some (by kernel_rfl))
  t0 := Try.underlying0
  a0 := Try.isAgg0
  z0 := Try.sizeOf0
  v0 := Try.zeroValue0
  t3 := Try.underlying3
  a3 := Try.isAgg3
  z3 := Try.sizeOf3
  v3 := Try.zeroValue3
  t4 := Try.underlying4
  a4 := Try.isAgg4
  z4 := Try.sizeOf4
  v4 := Try.zeroValue4
  t9 := Try.underlying9
  a9 := Try.isAgg9
  z9 := Try.sizeOf9
  v9 := Try.zeroValue9
  t20 := Try.underlying20
  a20 := Try.isAgg20
  z20 := Try.sizeOf20
  v20 := Try.zeroValue20
  t31 := Try.underlying23
  a31 := Try.isAgg23
  z31 := Try.sizeOf23
  v31 := Try.zeroValue23
  t37 := Try.underlying38
  a37 := Try.isAgg38
  z37 := Try.sizeOf38
  v37 := Try.zeroValue38
  t70 := Try.underlying106
  a70 := Try.isAgg106
  z70 := Try.sizeOf106
  v70 := Try.zeroValue106
  t72 := Try.underlying108
  a72 := Try.isAgg108
  z72 := Try.sizeOf108
  v72 := Try.zeroValue108
  t75 := Try.underlying111
  a75 := Try.isAgg111
  z75 := Try.sizeOf111
  v75 := Try.zeroValue111
  t76 := Try.underlying112
  a76 := Try.isAgg112
  z76 := Try.sizeOf112
  v76 := Try.zeroValue112
  t127 := Try.underlying129
  a127 := Try.isAgg129
  z127 := Try.sizeOf129
  v127 := Try.zeroValue129
  t164 := Try.underlying135
  a164 := Try.isAgg135
  z164 := Try.sizeOf135
  v164 := Try.zeroValue135 }
theorem Try.Builder_Extra_156 : Builder.Extra Try.prog Try.lays156_ren := {
  sizeBuilder := by kernel_rfl
  liesBuilder := by kernel_rfl
  t5 := Try.underlying5
  a5 := Try.isAgg5
  z5 := Try.sizeOf5
  v5 := Try.zeroValue5
  infoByte := by kernel_rfl
  cellsByte := by kernel_rfl
  sizeByte := by kernel_rfl
  neB5 := by decide }
end Go.Proofs

/- slices.Clone of texts. -/
namespace Go.Proofs
open Go.RowKit Go.Shelf Go.Lib Go.Maps
attribute [local go_sem] Oper.semAt_some
theorem Try.eqs (d : Nat) (A : Option Addr) (n cap : Nat) (w : World) : (Op.equalIn (d + 1) 23 (.slice A n cap) (.slice none 0 0)).run Try.prog w = .ok A.isNone w := by
  unfold Op.equalIn
  cases A <;> simp [Sem.run_bind, run_underlying Try.underlying23, Result.andThen]
theorem Try.some23 (a : Addr) (n cap : Nat) (w : World) : (binOp .eql 23 (.slice (some a) n cap) (.slice none 0 0)).run Try.prog w = .ok (.bool false) w :=
  (Go.Ab.eql_of (Try.eqs 9999 (some a) n cap w) rfl rfl).1
theorem Try.none23 (n cap : Nat) (w : World) : (binOp .eql 23 (.slice none n cap) (.slice none 0 0)).run Try.prog w = .ok (.bool true) w :=
  (Go.Ab.eql_of (Try.eqs 9999 none n cap w) rfl rfl).1
attribute [local go_sem] Try.some23 Try.none23
set_option maxRecDepth 100000 in
set_option maxHeartbeats 2000000 in
theorem Try.clone_c (A : Option Addr) (cap : Nat) (xs : List ByteArray) (hA : xs ≠ [] → ∃ a, A = some a) (w : World)
    (hcells : ∀ a : Addr, A = some a → ∀ (j : Nat) (u : Value), (xs.map Value.string)[j]? = some u → a.block < w.heap.size ∧ w.cell? (a.add j) = some u) (hlen : xs.length * 16 ≤ 140737488355328) :
    Calls Try.prog 45 #[.slice A xs.length cap] w fun e w' => ∃ v, e = .returned v ∧ w'.ownsRow w.heap.size 9 1 v xs.length (xs.map Value.string) ∧ Below w.heap.size w w' := by
  refine (callsIn_wide (n := 8)).1 ?_
  obtain ⟨i0, hi, hz0, hz1, hz2⟩ := info_parts Try.info9
  refine callsIn_of_wp Try.func45 rfl trivial ?_ rfl
  simp only [Try.ntmps45, List.size_toArray, List.length_cons, List.length_nil, Nat.reduceAdd, Nat.reduceSub, Array.replicate_succ, Array.replicate_zero, List.push_toArray, List.append_toArray, List.nil_append, List.cons_append]
  cases A with
  | none =>
    have h0 : xs = [] := Classical.byContradiction fun h => by obtain ⟨a, ha⟩ := hA h; cases ha
    subst h0
    gi_wp2
    go_ret
    exact ⟨_, rfl, World.ownsRow_nil _ _ _ _, Below.refl _ _⟩
  | some a =>
    have hcs := hcells a rfl
    have hrow : (w.alloc (.cells #[] 9)).ownsRow w.heap.size 9 1 (.slice (some ⟨w.heap.size, 0, none⟩) 0 0) 0 [] :=
      ⟨rfl, .inr ⟨w.heap.size, 0, #[], rfl, Nat.le_refl _, World.alloc_heap_new _ _, Nat.le_refl _, by unfold maxLen; omega, rfl, rfl⟩⟩
    have hcs' : ∀ j u, (xs.map Value.string)[j]? = some u → (w.alloc (.cells #[] 9)).cell? (a.add j) = some u := by
      intro j u hu
      obtain ⟨h1, h2⟩ := hcs j u hu
      have hb : (a.add j).block = a.block := by unfold Addr.add; split <;> rfl
      exact (World.cell?_of_block (by rw [hb]; exact Below.heap_alloc _ _ _ h1)).trans h2
    gi_wp2_with (gi_at_builtin; refine wpListIn_append_own _ rfl _ _ 23 rfl w.heap.size 9 i0 (.string ⟨#[]⟩) 1 16 Try.underlying23 hi hz0 hz1 hz2 rfl (by decide) _ _ _ rfl hrow a xs.length cap (xs.map Value.string) rfl (by simp) hcs' (by simp [Value.oneCell']) (by unfold maxLen; omega) (by omega) (by simp) ?_; intro v' w1 hown' hgrow _)
    go_ret
    simp only [Nat.zero_add, List.nil_append] at hown'
    refine ⟨v', rfl, hown', ((Below.refl w.heap.size w).alloc (Nat.le_refl _) _).grown hgrow (by simp) fun k e => ?_⟩
    have : w.heap.size = k := by simpa [Act.eval, Value.ownBlock] using e
    omega
end Go.Proofs

/- 'vpath.Parse', 'strings.Join' as functions that stand outside. -/
namespace Go.Ab
open Go
theorem below_junk' {w w' : World} (h : RowKit.Below w.heap.size w w') : w.grownBy w' none := ⟨h.os, h.tape, h.output, h.size, fun k hk _ => h.block k hk⟩
/-- A row of texts that nobody else knows. -/
theorem texts_pr {G : Gh} {m : Mem} {w w' : World} (hR : Rel G m w) (hb : RowKit.Below w.heap.size w w') {l : List ByteArray} {v : Value} (h : w'.ownsRow w.heap.size 9 1 v l.length (l.map Value.string)) : PR (G.ok w') w' (.sl (l.map encS)) v := by
  rcases h.2 with ⟨rfl, h0⟩ | ⟨g, cap, cur, rfl, hbg, hg, hc, _, hcs, ht⟩
  · obtain rfl := List.eq_nil_of_length_eq_zero h0
    exact .sl [] none 0 0 0 (fun _ _ => undef) rfl (Nat.le_refl _) (fun h => absurd h (by omega)) (fun i e j x h => by simp at h)
  · refine .sl _ (some ⟨g, 0, none⟩) l.length cap 1 (fun i _ => .string (l.getD i ⟨#[]⟩)) (by simp) hc (fun _ => ⟨g, 0, rfl, ⟨(Array.getElem?_eq_some_iff.1 hg).1, ?_, ?_⟩, ?_⟩) ?_
    · rintro ⟨i, o, hi⟩
      have := hR.lt _ _ _ hi
      omega
    · intro hh
      have := hR.hlt _ hh
      omega
    · intro i e hi
      simp only [List.getElem?_map, Option.map_eq_some_iff] at hi
      obtain ⟨s, hs, rfl⟩ := hi
      refine ⟨rfl, fun j x hj => ?_⟩
      obtain rfl : j = 0 := by
        cases j with
        | zero => rfl
        | succ j => simp [encS] at hj
      have hi' : i < l.length := (List.getElem?_eq_some_iff.1 hs).1
      have : cur.toList[i]? = some (.string s) := by
        have h1 : (cur.toList.take (l.length * 1))[i]? = some (.string s) := by rw [ht]; simp [hs]
        rw [List.getElem?_take] at h1
        split at h1
        · exact h1
        · cases h1
      simp [World.cell?, hg, hs]
      simpa using this
    · intro i e j x hi hj
      simp only [List.getElem?_map, Option.map_eq_some_iff] at hi
      obtain ⟨s, hs, rfl⟩ := hi
      obtain ⟨rfl, rfl⟩ : j = 0 ∧ x = .c (.string s) := by
        cases j with
        | zero => exact ⟨rfl, by simpa [encS] using hj.symm⟩
        | succ j => simp [encS] at hj
      have : l.getD i ⟨#[]⟩ = s := by simp [hs]
      rw [this]
      exact .c _ rfl
theorem parse_ok {s : ByteArray} (hs : s.size ≤ 9223372036854775807) (m : Mem) : CallsOk Go.Proofs.Try.prog 12 [.c (.p (.c (.string s)))] m (.ret (parseT s), m) where
  fn := ⟨_, Go.Proofs.Try.func12, rfl⟩
  keeps := .refl _
  run G w vs hR ha := by
    obtain ⟨v, rfl⟩ : ∃ v, vs = #[v] := by
      have := ha.1
      match vs, this with
      | ⟨[v]⟩, _ => exact ⟨v, rfl⟩
    have hv := ha.2 0 _ v rfl rfl
    cases hv with
    | c hv =>
      cases hv with
      | p hv =>
        cases hv with
        | c =>
          refine (Go.Proofs.Try.parse_c s hs w).mono ?_
          rintro e w' ⟨v, rfl, hrow, hb⟩
          refine ⟨_, G, rfl, .junk (below_junk' hb), hR.junk (below_junk' hb), .t rfl fun i x y hx hy => ?_⟩
          match i with
          | 0 =>
            cases hx
            cases hy
            exact .c (.p (texts_pr hR hb hrow))
          | 1 =>
            cases hx
            cases hy
            exact .c (.p (.c _ rfl))
          | i + 2 => simp at hx
theorem join_ok {l : List ByteArray} {sep : ByteArray} (hl : l.length ≤ 140737488355328) (hj : (joinZ l sep).size ≤ 140737488355328) (m : Mem) :
    CallsOk Go.Proofs.Try.prog 43 [.c (.p (.sl (l.map encS))), .c (.p (.c (.string sep)))] m (.ret (mkS (joinZ l sep)), m) where
  fn := ⟨_, Go.Proofs.Try.func43, rfl⟩
  keeps := .refl _
  run G w vs hR ha := by
    obtain ⟨v, u, rfl⟩ : ∃ v u, vs = #[v, u] := by
      have := ha.1
      match vs, this with
      | ⟨[v, u]⟩, _ => exact ⟨v, u, rfl⟩
    have hv := ha.2 0 _ v rfl rfl
    have hu := ha.2 1 _ u rfl rfl
    have hj' : (Go.Lib.join (l.map (·.data.toList)) sep.data.toList).length ≤ 140737488355328 := by
      have : (joinZ l sep).size = (Go.Lib.join (l.map (·.data.toList)) sep.data.toList).length := by
        show (Array.size _) = _
        simp
      omega
    have fin : ∀ {w' : World}, RowKit.Below w.heap.size w w' → Post G m w (.ret (mkS (joinZ l sep)), m) (.returned (.string (joinZ l sep))) w' := fun hb =>
      ⟨_, G, rfl, .junk (below_junk' hb), hR.junk (below_junk' hb), .e (.c (.p (.c _ rfl)))⟩
    cases hu with
    | c hu =>
    cases hu with
    | p hu =>
    cases hu with
    | c =>
    cases hv with
    | c hv =>
      cases hv with
      | p hv =>
        cases hv with
        | sl es A n cap k cv hn hcap hA h =>
          by_cases h0 : l = []
          · subst h0
            obtain rfl : n = 0 := by simpa using hn.symm
            refine (Go.Proofs.Any.strings_Join_none Go.Proofs.Try.lays156 Go.Proofs.Try.Builder_Extra_156 A cap sep w).mono ?_
            rintro e w' ⟨rfl, rfl⟩
            exact fin (.refl _ _)
          · have hpos : 0 < n := by
              rw [← hn]
              simp
              exact List.length_pos_iff.2 h0
            obtain ⟨b, o, rfl, hb, hc⟩ := hA hpos
            have hn' : l.length = n := by simpa using hn
            subst hn'
            refine (Go.Proofs.Any.strings_Join Go.Proofs.Try.lays156 Go.Proofs.Try.Builder_Extra_156 b o cap l sep w (fun j x hx => ?_) hb.1 hl hcap hj').mono ?_
            · have he : (l.map encS)[j]? = some (encS x) := by simp [hx]
              obtain ⟨h1, h2⟩ := hc j _ he
              have hk : k = 1 := h1.symm
              subst hk
              have h3 := h2 0 _ rfl
              have h4 := h j _ 0 _ he rfl
              rw [Nat.mul_one, Nat.add_zero] at h3
              rw [h3]
              generalize cv j 0 = c at h4
              cases h4
              rfl
            · rintro e w' ⟨rfl, hb'⟩
              exact fin hb'
theorem clone_ok {l : List ByteArray} (hl : l.length * 16 ≤ 140737488355328) (m : Mem) : CallsOk Go.Proofs.Try.prog 45 [.c (.p (.sl (l.map encS)))] m (.ret (.e (.c (.p (.sl (l.map encS))))), m) where
  fn := ⟨_, Go.Proofs.Try.func45, rfl⟩
  keeps := .refl _
  run G w vs hR ha := by
    obtain ⟨v, rfl⟩ : ∃ v, vs = #[v] := by
      have := ha.1
      match vs, this with
      | ⟨[v]⟩, _ => exact ⟨v, rfl⟩
    have hv := ha.2 0 _ v rfl rfl
    cases hv with
    | c hv =>
      cases hv with
      | p hv =>
        cases hv with
        | sl es A n cap k cv hn hcap hA h =>
          have hn' : l.length = n := by simpa using hn
          subst hn'
          refine (Go.Proofs.Try.clone_c A cap l ?_ w ?_ hl).mono ?_
          · intro h0
            obtain ⟨b, o, e, _⟩ := hA (List.length_pos_iff.2 h0)
            exact ⟨_, e⟩
          · rintro a rfl j u hu
            simp only [List.getElem?_map, Option.map_eq_some_iff] at hu
            obtain ⟨x, hx, rfl⟩ := hu
            have hpos : 0 < l.length := Nat.lt_of_le_of_lt (Nat.zero_le _) (List.getElem?_eq_some_iff.1 hx).1
            obtain ⟨b, o, e, hb, hc⟩ := hA hpos
            cases e
            refine ⟨hb.1, ?_⟩
            have he : (l.map encS)[j]? = some (encS x) := by simp [hx]
            obtain ⟨h1, h2⟩ := hc j _ he
            have hk : k = 1 := h1.symm
            subst hk
            have h3 := h2 0 _ rfl
            have h4 := h j _ 0 _ he rfl
            rw [Nat.mul_one, Nat.add_zero] at h3
            have hadd : (cellAt b o).add j = cellAt b (o + j) := by simp [Addr.add]
            rw [hadd, h3]
            generalize cv j 0 = c at h4
            cases h4
            rfl
          · rintro e w' ⟨v, rfl, hrow, hb⟩
            exact ⟨_, G, rfl, .junk (below_junk' hb), hR.junk (below_junk' hb), .e (.c (.p (texts_pr hR hb hrow)))⟩
theorem extF_ok : ∀ g f args m out, extF g = some f → f args m = some out → CallsOk Go.Proofs.Try.prog g args m out := by
  intro g f args m out hf h
  unfold extF at hf
  split at hf
  · cases hf
    dsimp only at h
    split at h
    · rename_i s
      cases hb : decide (s.size ≤ 9223372036854775807) with
      | false => rw [hb] at h; cases h
      | true =>
        rw [hb, cond_true] at h
        cases h
        exact parse_ok (of_decide_eq_true hb) m
    · cases h
  · cases hf
    dsimp only at h
    split at h
    · rename_i es sep
      simp only [Option.bind_eq_some_iff] at h
      obtain ⟨l, hl, h2⟩ := h
      obtain rfl := strsOf_eq hl
      cases hb : (decide (l.length ≤ 140737488355328) && decide ((joinZ l sep).size ≤ 140737488355328)) with
      | false => rw [hb] at h2; cases h2
      | true =>
        rw [hb, cond_true] at h2
        cases h2
        simp only [Bool.and_eq_true, decide_eq_true_eq] at hb
        exact join_ok hb.1 hb.2 m
    · cases h
  · cases hf
    dsimp only at h
    split at h
    · rename_i es
      simp only [Option.bind_eq_some_iff] at h
      obtain ⟨l, hl, h2⟩ := h
      obtain rfl := strsOf_eq hl
      cases hb : decide (l.length * 16 ≤ 140737488355328) with
      | false => rw [hb] at h2; cases h2
      | true =>
        rw [hb, cond_true] at h2
        cases h2
        exact clone_ok (of_decide_eq_true hb) m
    · cases h
  · cases hf
end Go.Ab
