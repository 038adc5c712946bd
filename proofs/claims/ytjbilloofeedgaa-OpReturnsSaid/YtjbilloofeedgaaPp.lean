/- What vpath.Parse calls. -/
import Derived.Shelf.Strings.Search2
import Derived.Ground.NamesProg
import Derived.Test.YtjbilloofeedgaaProg
import Derived.Shelf.RegionOpenPlain
import Derived.WalkKit
import Derived.Lib.Walk
import Derived.Lib.Strings
import Derived.Lib.Slices
import Derived.Lib.Bytealg
import Derived.BigCall
import Derived.BigGuard
import Derived.Deep.Draws
import Derived.Laws.Strings3
import Derived.Lib.CutLaws
import Derived.Lib.IndexBytes
import Derived.RangeFuncWrites
import Derived.RangeFuncBox
import Derived.RangeFuncLeaves
import Derived.Shelf.Abstract
import Derived.OwnWalkIn
import Derived.TacticsInMore
import Derived.LoopNIn
import Derived.LoopIn
import Derived.RangeFuncBound
import Derived.Lib.Hide
import Derived.Maps.AppendAt
import Derived.Laws.AppendOwn
set_option linter.unusedVariables false
set_option linter.unusedSimpArgs false
/-
  DERIVED: THE SHELF's CONTRACTS AT THIS DUMP, IN PLAIN WORDS (tools/lay-plain.mjs out of 'TryIdx.lean', which tools/lay-shelf.mjs wrote): THE SAME DECLARATIONS UNDER THE SAME NAMES: 'import', 'namespace', 'open', 'def', 'theorem' AND NOTHING ELSE: no command of the shelf's: FOR A HAND-IN. Each laying: the table of numbers ('.._ren') and one theorem, a field a fact of the dump's own or the kernel's comparison; each contract: ONE APPLICATION.
-/
namespace Go.Proofs
open Go.Shelf
def Try.lays219_ren : Go.Shelf.Ren := ⟨fun | 219 => 104 | 217 => 118 | 225 => 119 | 224 => 120 | 267 => 121 | 266 => 127 | 314 => 128 | n => n, fun | 9 => 9 | 3 => 3 | 4 => 4 | 5 => 5 | 46 => 56 | 146 => 155 | 51 => 147 | n => n, fun | 1 => 0 | n => n⟩
theorem Try.lays219 : Go.Proofs.Lays.n219 Try.prog Try.lays219_ren := {
  mixed := by kernel_rfl
  f217 := Try.func118.trans (congrArg some (by kernel_rfl))
  f219 := Try.func104.trans (congrArg some (by kernel_rfl))
  f224 := Try.func120.trans (congrArg some (by kernel_rfl))
  f225 := Try.func119.trans (congrArg some (by kernel_rfl))
  f266 := Try.func127.trans (congrArg some (by kernel_rfl))
  f267 := Try.func121.trans (congrArg some (by kernel_rfl))
  f314 := Try.func128.trans (congrArg some (by kernel_rfl))
  t3 := Try.underlying3
  a3 := Try.isAgg3
  z3 := Try.sizeOf3
  v3 := Try.zeroValue3
  t4 := Try.underlying4
  a4 := Try.isAgg4
  z4 := Try.sizeOf4
  v4 := Try.zeroValue4
  t5 := Try.underlying5
  a5 := Try.isAgg5
  z5 := Try.sizeOf5
  v5 := Try.zeroValue5
  t9 := Try.underlying9
  a9 := Try.isAgg9
  z9 := Try.sizeOf9
  v9 := Try.zeroValue9
  t46 := Try.underlying56
  a46 := Try.isAgg56
  z46 := Try.sizeOf56
  v46 := Try.zeroValue56
  t51 := Try.underlying147
  a51 := Try.isAgg147
  z51 := Try.sizeOf147
  v51 := Try.zeroValue147
  t146 := Try.underlying155
  a146 := Try.isAgg155
  z146 := Try.sizeOf155
  v146 := Try.zeroValue155
  g1 := by kernel_rfl }
end Go.Proofs

/- strings.Cut at a stroke. -/
namespace Go.Proofs
open Go.Shelf Go.RowKit Go.Lib

abbrev strokeB : ByteArray := ⟨#[47]⟩
set_option maxHeartbeats 2000000 in
set_option maxRecDepth 100000 in
theorem Try.cutL (s : ByteArray) (hs : s.size < 4294967281) (w : World) :
    Calls Try.prog 96 #[.string s, .string strokeB] w fun e w' => e = .returned (.tuple #[.string ⟨(Lib.cut s.data.toList [47]).1.toArray⟩, .string ⟨(Lib.cut s.data.toList [47]).2.1.toArray⟩, .bool (Lib.cut s.data.toList [47]).2.2]) ∧ ∃ n, w' = w.drewN n := by
  have e0 : strokeB.data.toList = [47] := rfl
  have h47 : Lib.indexB s strokeB = Lib.indexByte s.data.toList 47 := Lib.one s strokeB rfl
  rcases Lib.indexB_cases s strokeB with hix | ⟨i, hix, hroom⟩
  · obtain ⟨e1, e2, e3⟩ := Lib.cutB_miss s strokeB hix
    rw [e0] at e1 e2 e3
    rw [h47] at hix
    rw [e1, e2, e3]
    go_enter Try.func96, Try.ntmps96
    go_wp2_with (go_at_call 104; refine (Any.stringslite_Index_one Try.lays219 s 47 _).mono ?_; rintro e w' ⟨rfl, rfl⟩; rw [hix])
    go_ret3
    exact ⟨rfl, 0, rfl⟩
  · obtain ⟨e1, e2, e3⟩ := Lib.cutB_hit s strokeB i hix
    rw [e0] at e1 e2 e3
    rw [h47] at hix
    have hsz : strokeB.size = 1 := rfl
    rw [hsz] at hroom e2
    rw [e1, e2, e3]
    have c1 : (0 : Int) ≤ ↑i := by omega
    have c2 : (↑i : Int) ≤ ↑s.size := by omega
    have c3 : (0 : Int) ≤ ↑i + 1 := by omega
    have c4 : (↑i + 1 : Int) ≤ ↑s.size := by omega
    go_enter Try.func96, Try.ntmps96
    go_wp2_with (go_at_call 104; refine (Any.stringslite_Index_one Try.lays219 s 47 _).mono ?_; rintro e w' ⟨rfl, rfl⟩; rw [hix])
    go_region
    go_wp2
    go_ret3
    exact ⟨rfl, 1, rfl⟩
set_option maxHeartbeats 1000000 in
theorem Try.cut (s : ByteArray) (hs : s.size < 4294967281) (w : World) :
    Calls Try.prog 79 #[.string s, .string strokeB] w fun e w' => e = .returned (.tuple #[.string ⟨(Lib.cut s.data.toList [47]).1.toArray⟩, .string ⟨(Lib.cut s.data.toList [47]).2.1.toArray⟩, .bool (Lib.cut s.data.toList [47]).2.2]) ∧ ∃ n, w' = w.drewN n := by
  go_enter Try.func79, Try.ntmps79
  go_wp2_with (go_at_call 96; refine (Try.cutL s hs _).mono ?_; rintro e w' ⟨rfl, n, rfl⟩)
  go_ret3
  exact ⟨rfl, n, rfl⟩
end Go.Proofs

/- A range over a function that keeps a variable of its own. -/
namespace Go.Proofs
open Go.RowKit
variable {F : Fence} {n : Nat} {P : Program}
/-- An iterator that keeps its state in the cell of block Bs: the rounds leave that cell alone ('Kp'), the caller's word abides the iterator's stores into it. -/
def SeqCell {α : Type} (F : Fence) (n : Nat) (P : Program) (g : Nat) (lb : Array Value) (encs : α → Array Value) (Kp : World → World → Prop) (Bs : Nat) (S Sp : List α → Prop) (N : Nat) (w : World) : Prop :=
  ∀ (l : Nat) (J Jx : List α → World → Prop) (W : World), Below w.heap.size w W → AbidesFrom W.heap.size J → AbidesFrom W.heap.size Jx →
    (∀ s W v, J s W → J s (W.setCell ⟨Bs, 0, none⟩ v)) → (∀ s W v, Jx s W → Jx s (W.setCell ⟨Bs, 0, none⟩ v)) →
    (∀ pre x W1, J pre W1 → pre.length < N → YieldAt F (n - 1) P l (encs x) W1 fun e W' =>
      (e = .returned (.bool true) ∧ J (pre ++ [x]) W' ∧ Kp W1 W') ∨ (e = .returned (.bool false) ∧ Jx (pre ++ [x]) W')) →
    J [] W →
    CallsIn F n P g (#[.func (.yield l) #[] #[]] ++ lb) W fun e W' => (∃ v, e = .returned v) ∧ ((∃ xs, S xs ∧ J xs W') ∨ (∃ pre, Sp pre ∧ Jx pre W'))
theorem wpIn_rangeFunc_cell {α : Type} {g : Operand} {ps : Array Tmp} {assign body : Code} {Q : Exit → Act → World → Prop} {a : Act} {w : World}
    (hro : F.round = none) (h1 : 1 ≤ n) {gf : Nat} {lb : Array Value} (hg : a.eval g = .func (.func gf) #[] lb) (hFg : F.fn gf) (eg : ∀ args w, (callFunc gf args).run P w = .ok (.enter gf args) w)
    {encs : α → Array Value} {Kp : World → World → Prop} {S Sp : List α → Prop} {N : Nat} {w0 : World} (Bs : Nat) (hBs : Bs < w.heap.size) (hseq : SeqCell F (n - 1) P gf lb encs Kp Bs S Sp N w0)
    (hKt : ∀ {A B C : World}, Kp A B → Kp B C → Kp A C) (hKb : ∀ (W : World) (l : Nat) (o o' : Obj), w.heap.size ≤ l → W.heap[l]? = some o → o.isCells = false → o.isWalk = false → Kp W (W.putObj l o')) (hb0 : Below w0.heap.size w0 w) (hps : ∀ x, (encs x).size = ps.size)
    (I : List α → World → Prop) (Ix : Code → List α → World → Prop) (hI : OwnFrom w.heap.size I) (hIx : ∀ c, OwnFrom w.heap.size (Ix c)) (hIB : ∀ s W v, I s W → I s (W.setCell ⟨Bs, 0, none⟩ v)) (hIxB : ∀ c s W v, Ix c s W → Ix c s (W.setCell ⟨Bs, 0, none⟩ v)) (h0 : I [] w) (a₁ : α → Act)
    (hassign : ∀ (l : Nat) (x : α) (W : World) (K : Act → World → Prop), K (a₁ x) W →
      assign.wpIn (F.inRound l) (n - 1 - 1) P (Exit.then K (fun _ _ _ => False)) { tmps := (ps.zip (encs x)).foldl (fun t (p, v) => t.setIfInBounds p v) a.tmps, defers := [] } W)
    (hbody : ∀ (l : Nat) (pre : List α) (x : α) (W : World), I pre W → pre.length < N → body.wpIn (F.inRound l) (n - 1 - 1) P (ownPostG w.heap.size Kp I Ix (pre ++ [x]) W) (a₁ x) W)
    (hdone : ∀ (D : Nat) (xs : List α) (W : World), w.heap.size ≤ D → S xs → I xs W → W.heap[D]? = some (.deferred (some [])) → Q .normal { a with defers := { target := .collected D, args := #[] } :: a.defers } W)
    (hstop : ∀ (D : Nat) (c : Code) (pre : List α) (W : World), w.heap.size ≤ D → Sp pre → Ix c pre W → W.heap[D]? = some (.deferred (some [])) → c.wpIn F n P Q { a with defers := { target := .collected D, args := #[] } :: a.defers } W) :
    (Code.rangeFunc g ps assign body).wpIn F n P Q a w := by
  refine wpIn_rangeFunc ?_
  intro fn hfn
  rw [hro]
  obtain ⟨rec, hrec⟩ : ∃ rec : LoopState → Option Code → Loop, rec = fun st pe => { state := st, pending := pe, fn, tmps := a.tmps, params := ps, assign, body, defers := w.heap.size } := ⟨_, rfl⟩
  obtain ⟨W1, hW1⟩ : ∃ W1, (w.alloc (.deferred (some []))).alloc (.loop (rec .ready none)) = W1 := ⟨_, rfl⟩
  have hL1 : W1.heap[w.heap.size + 1]? = some (.loop (rec .ready none)) := by
    rw [← hW1]; have := World.alloc_heap_new (w.alloc (.deferred (some []))) (.loop (rec .ready none)); rwa [World.size_alloc] at this
  have hK1 : W1.heap[w.heap.size]? = some (.deferred (some [])) := by
    rw [← hW1]; exact (Below.heap_alloc _ _ _ (by simp)).trans (World.alloc_heap_new w _)
  have hI1 : I [] W1 := by rw [← hW1]; exact hI.alloc _ (hI.alloc _ h0)
  have hb1 : Below w0.heap.size w0 W1 := by
    rw [← hW1]; exact hb0.trans ((((Below.refl _ w).alloc (Nat.le_refl _) _).alloc (by simp) _).mono hb0.size)
  refine ⟨w.heap.size + 1, [{ target := .collected w.heap.size, args := #[] }], W1, { target := .fn (.func gf) lb, args := #[.func (.yield (w.heap.size + 1)) #[] #[]] }, W1, gf,
    #[.func (.yield (w.heap.size + 1)) #[] #[]] ++ lb, W1, ?_, ?_, ?_, ?_, fun _ => h1, ?_⟩
  · rw [← hW1, hrec]; exact run_enterLoop_outer _ _ _ _ _
  · simp only [resolve, hg]
    simp [go_sem]
  · intro f' hf'; simp [Target.leads] at hf'; subst hf'; exact hFg
  · simp [invoke, go_sem, eg]
  · -- THE ITERATOR's CONTRACT, AT THE CALLER's INVARIANT WITH THE TWO FACTS OF BOOK-KEEPING BESIDE IT
    have hnw : ∀ {A B : World} {row : Option Nat}, (∀ r, row = some r → W1.heap.size ≤ r ∧ ∃ o : Obj, A.heap[r]? = some o ∧ o.isWalk = true) → (∀ r, row = some r → w.heap.size ≤ r ∧ ∃ o : Obj, A.heap[r]? = some o ∧ o.isCells = false) :=
      fun hr r e => by obtain ⟨hB, o, ho, hw⟩ := hr r e; exact ⟨by rw [← hW1] at hB; simp at hB; omega, o, ho, Obj.not_cells_of_walk hw⟩
    refine (hseq (w.heap.size + 1)
      (fun pre W => I pre W ∧ W.heap[w.heap.size + 1]? = some (.loop (rec .ready none)) ∧ W.heap[w.heap.size]? = some (.deferred (some [])))
      (fun pre W => ∃ c, Ix c pre W ∧ W.heap[w.heap.size + 1]? = some (.loop (rec .done (some c))) ∧ W.heap[w.heap.size]? = some (.deferred (some [])))
      W1 hb1
      (fun s A B row hs hg' hr => ⟨hI s A B row hs.1 hg' (hnw (B := B) hr), (grownBy_keeps hg' (fun r e => (hr r e).2) hs.2.1 rfl).trans hs.2.1, (grownBy_keeps hg' (fun r e => (hr r e).2) hs.2.2 rfl).trans hs.2.2⟩)
      (fun s A B row hs hg' hr => by
        obtain ⟨c, hc, hl, hk⟩ := hs
        exact ⟨c, hIx c s A B row hc hg' (hnw (B := B) hr), (grownBy_keeps hg' (fun r e => (hr r e).2) hl rfl).trans hl, (grownBy_keeps hg' (fun r e => (hr r e).2) hk rfl).trans hk⟩)
      (fun s W v hs => ⟨hIB s W v hs.1, (Below.heap_setCell _ _ _ _ (by show w.heap.size + 1 ≠ Bs; omega)).trans hs.2.1, (Below.heap_setCell _ _ _ _ (by show w.heap.size ≠ Bs; omega)).trans hs.2.2⟩)
      (fun s W v hs => by
        obtain ⟨c, hc, hl, hk⟩ := hs
        exact ⟨c, hIxB c s W v hc, (Below.heap_setCell _ _ _ _ (by show w.heap.size + 1 ≠ Bs; omega)).trans hl, (Below.heap_setCell _ _ _ _ (by show w.heap.size ≠ Bs; omega)).trans hk⟩)
      ?_ ⟨hI1, hL1, hK1⟩).mono ?_
    · -- ONE ROUND
      rintro pre x W ⟨hi, hl, hk⟩ hlen
      have hlt : w.heap.size + 1 < W.heap.size := (Array.getElem?_eq_some_iff.1 hl).1
      have hy := run_yield (P := P) (args := encs x) hl (by rw [hrec]; exact hps x)
      rw [hrec] at hy
      refine ⟨fn, _, assign, body, hy, roundIn_of_wpIn hfn (hassign _ x W _ ⟨_, run_beginRound hl (by rw [hrec]), ?_⟩)⟩
      have hl2 : (W.putObj (w.heap.size + 1) (.loop { rec .ready none with state := .busy })).heap[w.heap.size + 1]? = some (.loop { rec .ready none with state := .busy }) := World.putObj_heap_same hlt
      have hk2 : (W.putObj (w.heap.size + 1) (.loop { rec .ready none with state := .busy })).heap[w.heap.size]? = some (.deferred (some [])) := (World.putObj_heap_other (by omega)).trans hk
      have hw2 : Kp W (W.putObj (w.heap.size + 1) (.loop { rec .ready none with state := .busy })) := hKb _ _ _ _ (by omega) hl rfl rfl
      refine wpIn_mono (hbody _ pre x _ (hI.putObj _ hi (by omega) hl rfl) hlen) ?_
      have fin : ∀ (jump : Option Code) (W3 : World), KeepsFrom w.heap.size (W.putObj (w.heap.size + 1) (.loop { rec .ready none with state := .busy })) W3 →
          (Instr.endRound (w.heap.size + 1) jump).run P W3 = .ok (.bool jump.isNone) (W3.putObj (w.heap.size + 1) (.loop (rec (if jump.isNone then .ready else .done) jump))) ∧
          W3.heap[w.heap.size + 1]? = some (.loop { rec .ready none with state := .busy }) ∧
          (W3.putObj (w.heap.size + 1) (.loop (rec (if jump.isNone then .ready else .done) jump))).heap[w.heap.size + 1]? = some (.loop (rec (if jump.isNone then .ready else .done) jump)) ∧
          (W3.putObj (w.heap.size + 1) (.loop (rec (if jump.isNone then .ready else .done) jump))).heap[w.heap.size]? = some (.deferred (some [])) := fun jump W3 hk3 => by
        have hl3 := hk3.same _ _ (by omega) hl2 rfl
        have := run_endRound (P := P) jump hl3
        rw [hrec] at this ⊢
        exact ⟨this, by rw [hrec] at hl3; exact hl3, World.putObj_heap_same (Array.getElem?_eq_some_iff.1 hl3).1, (World.putObj_heap_other (by omega)).trans (hk3.same _ _ (Nat.le_refl _) hk2 rfl)⟩
      rintro e a3 W3 hp
      cases e with
      | normal =>
        obtain ⟨hk3, hkp3, hi3⟩ := hp
        obtain ⟨hr, hl3, hl4, hk4⟩ := fin none W3 hk3
        exact ⟨_, _, hr, .inl ⟨rfl, ⟨hI.putObj _ hi3 (by omega) hl3 rfl, hl4, hk4⟩, hKt (hKt hw2 hkp3) (hKb _ _ _ _ (by omega) hl3 rfl rfl)⟩⟩
      | ret =>
        obtain ⟨hk3, hi3⟩ := hp
        obtain ⟨hr, hl3, hl4, hk4⟩ := fin (some .ret) W3 hk3
        exact ⟨_, _, hr, .inr ⟨rfl, .ret, (hIx _).putObj _ hi3 (by omega) hl3 rfl, hl4, hk4⟩⟩
      | exit id =>
        obtain ⟨hk3, hi3⟩ := hp
        obtain ⟨hr, hl3, hl4, hk4⟩ := fin (some (.exit id)) W3 hk3
        exact ⟨_, _, hr, .inr ⟨rfl, .exit id, (hIx _).putObj _ hi3 (by omega) hl3 rfl, hl4, hk4⟩⟩
      | goto t =>
        obtain ⟨hk3, hi3⟩ := hp
        obtain ⟨hr, hl3, hl4, hk4⟩ := fin (some (.goto t)) W3 hk3
        exact ⟨_, _, hr, .inr ⟨rfl, .goto t, (hIx _).putObj _ hi3 (by omega) hl3 rfl, hl4, hk4⟩⟩
      | panic ch => exact hp.elim
      | outgrown => exact hp.elim
    · -- BEHIND THE ITERATOR
      rintro e W2 ⟨⟨v, rfl⟩, (⟨xs, hS, hi, hl, hk⟩ | ⟨pre, hSp, c, hi, hl, hk⟩)⟩
      · exact ⟨none, _, by have := run_endLoop (P := P) hl (by rw [hrec]; simp); rw [hrec] at this; exact this, hdone _ xs _ (Nat.le_refl _) hS (hI.putObj _ hi (by omega) hl rfl) ((World.putObj_heap_other (by omega)).trans hk)⟩
      · exact ⟨some c, _, by have := run_endLoop (P := P) hl (by rw [hrec]; simp); rw [hrec] at this; exact this, hstop _ c pre _ (Nat.le_refl _) hSp ((hIx c).putObj _ hi (by omega) hl rfl) ((World.putObj_heap_other (by omega)).trans hk)⟩

end Go.Proofs

/- The pieces of a path's text. -/
namespace Go.Proofs
open Go.RowKit Go.Shelf Go.Lib

attribute [local go_sem] Oper.semAt_some

/-- What stands between strokes. -/
def pcs : Nat → List UInt8 → List ByteArray
  | 0, _ => []
  | k + 1, l => if l = [] then [] else ⟨(Lib.cut l [47]).1.toArray⟩ :: pcs k (Lib.cut l [47]).2.1
theorem cut_lt (l : List UInt8) (h : l ≠ []) : (Lib.cut l [47]).2.1.length < l.length := by
  have := List.length_pos_iff.2 h
  unfold Lib.cut
  split
  · simp
    omega
  · simpa using this
theorem pcs_fuel : ∀ (k j : Nat) (l : List UInt8), l.length ≤ k → l.length ≤ j → pcs k l = pcs j l
  | 0, 0, _, _, _ => rfl
  | 0, j + 1, l, h, _ => by
    have : l = [] := List.eq_nil_of_length_eq_zero (by omega)
    simp [pcs, this]
  | k + 1, 0, l, _, h => by
    have : l = [] := List.eq_nil_of_length_eq_zero (by omega)
    simp [pcs, this]
  | k + 1, j + 1, l, h, h' => by
    by_cases h0 : l = []
    · simp [pcs, h0]
    · have := cut_lt l h0
      simp only [pcs, if_neg h0]
      rw [pcs_fuel k j _ (by omega) (by omega)]
def pieces (s : ByteArray) : List ByteArray := pcs s.size s.data.toList
theorem pieces_nil (s : ByteArray) (h : s.size = 0) : pieces s = [] := by
  unfold pieces
  rw [h]
  rfl
theorem pieces_cons (s : ByteArray) (h : s.size ≠ 0) : pieces s = ⟨(Lib.cut s.data.toList [47]).1.toArray⟩ :: pieces ⟨(Lib.cut s.data.toList [47]).2.1.toArray⟩ := by
  have hl : s.data.toList.length = s.size := by rw [Array.length_toList]; rfl
  have h0 : s.data.toList ≠ [] := fun hh => h (by rw [← hl, hh]; rfl)
  have := cut_lt _ h0
  obtain ⟨k, hk⟩ : ∃ k, s.size = k + 1 := ⟨s.size - 1, by omega⟩
  unfold pieces
  rw [hk, pcs, if_neg h0]
  congr 1
  refine pcs_fuel _ _ _ (by omega) (Nat.le_of_eq ?_)
  show _ = (Array.size _)
  simp
/-- How much is left. -/
def leftB (Bs : Nat) (W : World) : Nat := match W.cell? ⟨Bs, 0, none⟩ with
  | some (.string r) => r.size
  | _ => 0
/-- A round leaves the iterator's own cell alone. -/
def KeepsCell (Bs : Nat) (W W' : World) : Prop := W'.cell? ⟨Bs, 0, none⟩ = W.cell? ⟨Bs, 0, none⟩ ∧ W'.frozen? ⟨Bs, 0, none⟩ = W.frozen? ⟨Bs, 0, none⟩
theorem grownBy_drewN (W : World) (n : Nat) : W.grownBy (W.drewN n) none := ⟨rfl, rfl, rfl, Nat.le_refl _, fun _ _ _ => rfl⟩
set_option maxRecDepth 100000 in
set_option maxHeartbeats 2000000 in
theorem Try.pieces1 (n : Nat) (hn : 1 ≤ n) (l Bs N : Nat) (s : ByteArray) (hs : s.size < 4294967281) (J Jx : List ByteArray → World → Prop)
    (hY : ∀ pre x W, J pre W → pre.length < N → YieldAt Fence.wide (n - 1) Try.prog l #[.string x] W fun e W' =>
      (e = .returned (.bool true) ∧ J (pre ++ [x]) W' ∧ KeepsCell Bs W W') ∨ (e = .returned (.bool false) ∧ Jx (pre ++ [x]) W'))
    (hN : (pieces s).length ≤ N) (W : World) (hJ : AbidesFrom W.heap.size J) (hJB : ∀ s W v, J s W → J s (W.setCell ⟨Bs, 0, none⟩ v)) (hB : W.cell? ⟨Bs, 0, none⟩ = some (.string s)) (hf : W.frozen? ⟨Bs, 0, none⟩ = false) (h0 : J [] W) :
    CallsIn Fence.wide n Try.prog 78 #[.func (.yield l) #[] #[], .pointer (some ⟨Bs, 0, none⟩)] W fun e W' => (∃ v, e = .returned v) ∧
      ((∃ ys, ys = pieces s ∧ J ys W') ∨ (∃ pre, pre <+: pieces s ∧ Jx pre W')) := by
  refine callsIn_of_wp Try.func78 rfl trivial ?_ rfl
  simp only [Try.ntmps78, List.size_toArray, List.length_cons, List.length_nil, Nat.reduceAdd, Nat.reduceSub, Array.replicate_succ, Array.replicate_zero, List.push_toArray, List.append_toArray, List.nil_append, List.cons_append]
  gi_wp2
  gi_loopw [3] (fun _ wr => ∃ (pre : List ByteArray) (r : ByteArray), r.size < 4294967281 ∧ pieces s = pre ++ pieces r ∧ wr.cell? ⟨Bs, 0, none⟩ = some (.string r) ∧ wr.frozen? ⟨Bs, 0, none⟩ = false ∧ J pre wr)
    (fun _ wr => leftB Bs wr)
  case atStart => exact ⟨[], s, hs, rfl, hB, hf, h0⟩
  case round =>
    obtain ⟨pre, r, hr, hps, hc, hz, hJs⟩ := hrel
    by_cases hemp : r.size = 0
    · obtain rfl : r = ⟨#[]⟩ := by
        obtain ⟨d⟩ := r
        congr 1
        exact Array.eq_empty_of_size_eq_zero hemp
      gi_wp2
      go_end0
      exact ⟨⟨_, rfl⟩, .inl ⟨_, by rw [hps, pieces_nil _ rfl, List.append_nil], hJs⟩⟩
    · have hpc := pieces_cons r hemp
      have hnl : r.data.toList ≠ [] := by
        intro hh
        have hl : r.data.toList.length = r.size := by rw [Array.length_toList]; rfl
        rw [hh] at hl
        exact hemp hl.symm
      have hlen : pre.length < N := by rw [hps, hpc] at hN; simp at hN; omega
      have hne : (!r.toList.isEmpty) = true := by
        rw [ByteArray.toList_eq]
        have hl : r.data.toList.length = r.size := by rw [Array.length_toList]; rfl
        cases hd : r.data.toList with
        | nil => rw [hd] at hl; exact absurd hl.symm hemp
        | cons => rfl
      have hL := Lib.hid hpc
      have hL2 := Lib.hid hps
      clear hpc hps
      gi_wp2_with (refine ⟨trivial, ?_⟩; gi_at_call 79; refine (callsIn_wide.2 (Try.cut r hr _)).mono ?_; rintro e w' ⟨rfl, k, rfl⟩)
      obtain ⟨fn, tmps, assign, body, hy, hR⟩ := hY pre ⟨(Lib.cut r.data.toList [47]).1.toArray⟩ (wr.drewN k) (hJ pre wr _ none hJs (grownBy_drewN wr k) (fun r e => by cases e)) hlen
      rw [hy]
      refine ⟨fun _ => hn, hR.mono ?_⟩
      rintro e W3 (⟨rfl, hJ3, hk3⟩ | ⟨rfl, hJx3⟩)
      · have hc3 : W3.cell? ⟨Bs, 0, none⟩ = some (.string r) := hk3.1.trans hc
        have hz3 : W3.frozen? ⟨Bs, 0, none⟩ = false := hk3.2.trans hz
        gi_wp2
        go_roundw
        case rel =>
          refine ⟨pre ++ [⟨(Lib.cut r.data.toList [47]).1.toArray⟩], ⟨(Lib.cut r.data.toList [47]).2.1.toArray⟩, ?_, ?_, ?_, ?_, hJB _ _ _ hJ3⟩
          · have := cut_lt _ hnl
            have hl : r.data.toList.length = r.size := by rw [Array.length_toList]; rfl
            show (Array.size _) < _
            simp
            omega
          · rw [hL2.out, hL.out]
            simp
          · exact World.cell?_setCell_same' _ _ _ (by rw [hc3]; rfl)
          · rw [World.frozen?_setCell]
            exact hz3
        case measure =>
          have := cut_lt _ hnl
          have hl : r.data.toList.length = r.size := by rw [Array.length_toList]; rfl
          have e1 : leftB Bs (W3.setCell ⟨Bs, 0, none⟩ (.string ⟨(Lib.cut r.data.toList [47]).2.1.toArray⟩)) = (Lib.cut r.data.toList [47]).2.1.length := by
            unfold leftB
            rw [World.cell?_setCell_same' _ _ _ (by rw [hc3]; rfl)]
            show (Array.size _) = _
            simp
          have e2 : leftB Bs wr = r.size := by
            unfold leftB
            rw [hc]
          rw [e1, e2]
          omega
      · gi_wp2
        refine bodyPost_ret (results_none rfl _ _ _) rfl ?_
        exact ⟨⟨_, rfl⟩, .inr ⟨_, ⟨pieces ⟨(Lib.cut r.data.toList [47]).2.1.toArray⟩, by rw [hL2.out, hL.out]; simp⟩, hJx3⟩⟩
end Go.Proofs

/- vpath.Parse: its callees. -/
namespace Go.Proofs
open Go.RowKit Go.Shelf Go.Lib

/-- May a byte stand in a name? -/
def plainB (c : Int) : Bool := decide (c = 46 ∨ c = 95 ∨ c = 45 ∨ (48 ≤ c ∧ c ≤ 57) ∨ (97 ≤ c ∧ c ≤ 122) ∨ (65 ≤ c ∧ c ≤ 90))
theorem ret_bool {a b : Bool} (h : a = b) : Ending.returned (.bool a) = .returned (.bool b) := by rw [h]
set_option maxRecDepth 100000 in
set_option maxHeartbeats 2000000 in
theorem Try.plain_c (c : Int) (h0 : 0 ≤ c) (h1 : c ≤ 255) (w : World) : Calls Try.prog 40 #[.int .u8 c] w fun e w' => e = .returned (.bool (plainB c)) ∧ w = w' := by
  by_cases a1 : c = 46
  · subst a1
    go_enter Try.func40, Try.ntmps40
    go_wp2
    all_goals (go_ret; exact ⟨rfl, rfl⟩)
  by_cases a2 : c = 95
  · subst a2
    go_enter Try.func40, Try.ntmps40
    go_wp2
    all_goals (go_ret; exact ⟨rfl, rfl⟩)
  by_cases a3 : c = 45
  · subst a3
    go_enter Try.func40, Try.ntmps40
    go_wp2
    all_goals (go_ret; exact ⟨rfl, rfl⟩)
  have b1 : (c == 46) = false := by simpa using a1
  have b2 : (c == 95) = false := by simpa using a2
  have b3 : (c == 45) = false := by simpa using a3
  have hp : plainB c = decide ((48 ≤ c ∧ c ≤ 57) ∨ (97 ≤ c ∧ c ≤ 122) ∨ (65 ≤ c ∧ c ≤ 90)) := by
    unfold plainB
    simp [a1, a2, a3]
  rw [hp]
  clear hp
  go_enter Try.func40, Try.ntmps40
  go_wp2
  all_goals go_ret
  all_goals refine ⟨ret_bool ?_, rfl⟩
  all_goals (rw [Bool.eq_iff_iff]; simp; omega)
end Go.Proofs

/- vpath.Parse: strings.HasPrefix, vpath.pieces. -/
namespace Go.Proofs
open Go.RowKit Go.Shelf Go.Lib

/-- Does a text begin with a stroke? -/
def slashed (s : ByteArray) : Bool := s.data.toList.head? == some 47
set_option maxRecDepth 100000 in
set_option maxHeartbeats 2000000 in
theorem Try.prefix77 (s : ByteArray) (hs : s.size < 4294967281) (w : World) : Calls Try.prog 77 #[.string s, .string ⟨#[47]⟩] w fun e w' => e = .returned (.bool (slashed s)) ∧ w = w' := by
  have h1 : (ByteArray.mk #[47]).size = 1 := rfl
  by_cases h0 : s.size = 0
  · obtain rfl : s = ⟨#[]⟩ := by
      obtain ⟨d⟩ := s
      congr 1
      exact Array.eq_empty_of_size_eq_zero h0
    go_enter Try.func77, Try.ntmps77
    go_wp2
    go_ret
    exact ⟨rfl, rfl⟩
  · go_enter Try.func77, Try.ntmps77
    go_wp2
    go_ret
    refine ⟨ret_bool ?_, rfl⟩
    rw [ByteArray.toList_eq, ByteArray.data_extract]
    unfold slashed
    obtain ⟨⟨l⟩⟩ := s
    cases l with
    | nil => exact absurd rfl h0
    | cons x l =>
      have : ((⟨x :: l⟩ : Array UInt8).extract 0 1).toList = [x] := by simp
      rw [this]
      simp
set_option maxRecDepth 100000 in
theorem Try.prefix39 (s : ByteArray) (hs : s.size < 4294967281) (w : World) : Calls Try.prog 39 #[.string s, .string ⟨#[47]⟩] w fun e w' => e = .returned (.bool (slashed s)) ∧ w = w' := by
  refine (callsIn_wide (n := 8)).1 ?_
  refine callsIn_of_wp Try.func39 rfl trivial ?_ rfl
  simp only [Try.ntmps39, List.size_toArray, List.length_cons, List.length_nil, Nat.reduceAdd, Nat.reduceSub, Array.replicate_succ, Array.replicate_zero, List.push_toArray, List.append_toArray, List.nil_append, List.cons_append]
  gi_wp2_with (refine ⟨trivial, ?_⟩; gi_at_call 77; refine (callsIn_wide.2 (Try.prefix77 s hs _)).mono ?_; rintro e w' ⟨rfl, rfl⟩)
  go_ret
  exact ⟨rfl, rfl⟩
set_option maxRecDepth 100000 in
set_option maxHeartbeats 2000000 in
theorem Try.pieces_in (F : Fence) (n : Nat) (h5 : F.fn 41) (hro : F.round = none) (s : ByteArray) (w : World) :
    CallsIn F n Try.prog 41 #[.string s] w fun e w' => e = .returned (.func (.func 78) #[] #[.pointer (some ⟨w.heap.size, 0, none⟩)]) ∧ w' = w.alloc (.cells #[.string s] 9) := by
  refine callsIn_of_wp Try.func41 rfl h5 ?_ hro
  simp only [Try.ntmps41, List.size_toArray, List.length_cons, List.length_nil, Nat.reduceAdd, Nat.reduceSub, Array.replicate_succ, Array.replicate_zero, List.push_toArray, List.append_toArray, List.nil_append, List.cons_append]
  gi_wp2
  go_ret
  exact ⟨rfl, rfl⟩
end Go.Proofs

/- vpath.Parse itself. -/
namespace Go.Proofs
open Go.RowKit Go.Shelf Go.Lib Go.Maps

attribute [local go_sem] Oper.semAt_some

/-- One piece more. -/
def stepN (acc : List ByteArray) (p : ByteArray) : List ByteArray :=
  if p.data = #[] ∨ p.data = #[46] then acc else if p.data = #[46, 46] then acc.take (acc.length - 1) else acc ++ [p]
def foldN (l : List ByteArray) : List ByteArray := l.foldl stepN []
theorem foldN_snoc (l : List ByteArray) (p : ByteArray) : foldN (l ++ [p]) = stepN (foldN l) p := by simp [foldN]
theorem stepN_len (acc : List ByteArray) (p : ByteArray) : (stepN acc p).length ≤ acc.length + 1 := by
  unfold stepN
  repeat' split
  all_goals simp
  all_goals omega
theorem foldN_len' : ∀ (l acc : List ByteArray), (l.foldl stepN acc).length ≤ l.length + acc.length
  | [], acc => by simp
  | p :: l, acc => by
    have := stepN_len acc p
    have := foldN_len' l (stepN acc p)
    simp only [List.foldl_cons, List.length_cons]
    omega
theorem foldN_len (l : List ByteArray) : (foldN l).length ≤ l.length := by
  have := foldN_len' l []
  simpa [foldN] using this
/-- Is each byte of a path's text one that may stand there? -/
def goodB (x : UInt8) : Bool := x == 47 || plainB x.toNat
/-- What a path's text says: its names, or what is wrong. -/
def parseZ (s : ByteArray) : List ByteArray × Int :=
  if 256 < s.size then ([], 2)
  else if slashed s = false then ([], 40)
  else if s.data.toList.all goodB = false then ([], 40)
  else if (pieces s).any (fun p => decide (16 < p.size)) = true then ([], 41)
  else if 8 < (foldN (pieces s)).length then ([], 42)
  else (foldN (pieces s), 0)
theorem Try.info9 : (Try.prog.info? 9).map (fun i => (i.zero, i.size, i.bytes)) = some (some (.string ⟨#[]⟩), 1, 16) := by kernel_rfl
theorem ownsRow_take {w : World} {base e : Nat} {v : Value} {n : Nat} {xs : List Value} (h : w.ownsRow base e 1 v n xs) {k : Nat} (hk : k ≤ n) {g : Nat} {cap : Nat} (hv : v = .slice (some ⟨g, 0, none⟩) n cap) :
    w.ownsRow base e 1 (.slice (some ⟨g, 0, none⟩) k cap) k (xs.take k) := by
  subst hv
  refine ⟨by rw [List.length_take, h.1]; omega, ?_⟩
  rcases h.2 with ⟨h1, _⟩ | ⟨g', cap', cur, h1, h2, h3, h4, h5, h6, h7⟩
  · cases h1
  · cases h1
    refine .inr ⟨g, cap, cur, rfl, h2, h3, by omega, h5, h6, ?_⟩
    rw [← h7, List.take_take]
    congr 1
    omega
end Go.Proofs
