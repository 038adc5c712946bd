/- Regions that draw their order; data; rows; how meanings are read. -/
import Derived.Test.YtjbilloofeedgaaFb
import GoSem.ClaimChange
import GoSem.ClaimJoined
import Derived.Below
import Derived.Carry
import Derived.ChangeOld
import Derived.Test.YtjbilloofeedgaaFa
set_option linter.unusedVariables false
set_option linter.unusedSimpArgs false
/- A region that draws its order: the text's run of it, step by step. -/
namespace Go.Ab
open Go

/-- One step of the text's run. -/
structure StepAt (P : Program) (ops : Array Oper) (c c' : Cfg) (o : Oper) (v : TV) (f : Foot) : Prop where
  tmps : c'.tmps = putT c.tmps o.dst v
  log : c.log.isSome = true
  does : (wantA ops o c.tmps = some true ∧ OpOk P c o v c'.mem f) ∨ (wantA ops o c.tmps = some false ∧ v = unitT ∧ c'.mem = c.mem ∧ f = .nil)
section
variable {E : Env}
/-- The text's run. -/
theorem trace (hF : Fit E.P) (hext : ∀ g f args m out, E.ext g = some f → f args m = some out → CallsOk E.P g args m out) {N : Nat} (IH : ∀ k, k ≤ N → ∀ c o, runN E k c = some o → Sim E.P c o) {ops : Array Oper} {o : Out} :
    ∀ (rest : List Oper) (n i : Nat) (c : Cfg) (L : List Foot), n ≤ N → c.ops = rest → rest = ops.toList.drop i → i ≤ ops.size → c.rops = ops → c.log = some L → runN E n c = some o →
    ∃ (cf : Nat → Cfg) (vf : Nat → TV) (ff : Nat → Foot), cf i = c ∧ (∀ j, i ≤ j → j < ops.size → ∃ oj, ops[j]? = some oj ∧ StepAt E.P ops (cf j) (cf (j + 1)) oj (vf j) (ff j)) ∧
      backOk 0 ops.toList = true ∧ allApart ops (beforeL ops.toList []) 0 ops.toList = true ∧ (∃ ps, pairs (beforeL ops.toList []) 0 (L ++ (List.range' i (ops.size - i)).map ff) = some ps ∧ ∀ x ∈ ps, x.ok) ∧
      (cf ops.size).fn = c.fn ∧ (cf ops.size).todo = c.todo ∧ ∃ n', n' ≤ N ∧ runN E n' { cf ops.size with ops := [], log := none } = some o := by
  intro rest
  induction rest with
  | nil =>
    intro n i c L hn hops hr hi hro hlog h
    have hiN : i = ops.size := by
      have := congrArg List.length hr
      simp at this
      omega
    subst hiN
    subst hro
    cases n with
    | zero => cases h
    | succ n =>
      simp only [runN, stp, stepK, hops, hlog] at h
      refine ⟨fun _ => c, fun _ => unitT, fun _ => .nil, rfl, fun j h1 h2 => by omega, ?_⟩
      unfold endRegion at h
      dsimp only at h
      rcases condO h with ⟨hc, h2⟩ | ⟨_, h2⟩
      · simp only [Bool.and_eq_true] at hc
        refine ⟨hc.1, hc.2, ?_, rfl, rfl, n, by omega, ?_⟩
        · simp only [Nat.sub_self, List.range'_zero, List.map_nil, List.append_nil]
          split at h2
          · rename_i hp
            exact ⟨[], hp, fun x hx => by cases hx⟩
          · rename_i ps hp
            unfold conK at h2
            split at h2
            · rename_i hcon
              exact ⟨_, hp, hcon⟩
            · cases h2
          · cases h2
        · split at h2
          · exact h2
          · unfold conK at h2
            split at h2
            · exact h2
            · cases h2
          · cases h2
      · cases h2
  | cons oi rest ih =>
    intro n i c L hn hops hr hi hro hlog h
    obtain ⟨h1, h2, h3⟩ := drop_cons hr
    cases n with
    | zero => cases h
    | succ n =>
      simp only [runN] at h
      have hcall : ∀ g args m out, ansR E (runN E n) g args m = some out → CallsOk E.P g args m out := by
        intro g args m out hans
        unfold ansR at hans
        split at hans
        · rename_i f hf
          exact hext g f args m out hf hans
        · exact entry_calls (IH n (by omega)) hans
      rw [step_oper hops] at h
      have go : ∀ {c' : Cfg} {v : TV} {f : Foot}, runN E n c' = some o → c'.ops = rest → c'.rops = ops → c'.log = some (L ++ [f]) → c'.fn = c.fn → c'.todo = c.todo → StepAt E.P ops c c' oi v f →
          ∃ (cf : Nat → Cfg) (vf : Nat → TV) (ff : Nat → Foot), cf i = c ∧ (∀ j, i ≤ j → j < ops.size → ∃ oj, ops[j]? = some oj ∧ StepAt E.P ops (cf j) (cf (j + 1)) oj (vf j) (ff j)) ∧
            backOk 0 ops.toList = true ∧ allApart ops (beforeL ops.toList []) 0 ops.toList = true ∧ (∃ ps, pairs (beforeL ops.toList []) 0 (L ++ (List.range' i (ops.size - i)).map ff) = some ps ∧ ∀ x ∈ ps, x.ok) ∧
            (cf ops.size).fn = c.fn ∧ (cf ops.size).todo = c.todo ∧ ∃ n', n' ≤ N ∧ runN E n' { cf ops.size with ops := [], log := none } = some o := by
        intro c' v f hrun e1 e2 e3 e4 e5 hst
        obtain ⟨cf, vf, ff, g1, g2, g3, g4, g5, g6, g7, g8⟩ := ih n (i + 1) c' (L ++ [f]) (by omega) e1 h3 (by omega) e2 e3 hrun
        refine ⟨fun j => if j = i then c else cf j, fun j => if j = i then v else vf j, fun j => if j = i then f else ff j, by simp, fun j hj hj' => ?_, g3, g4, ?_, ?_, ?_, ?_⟩
        · by_cases hji : j = i
          · subst hji
            refine ⟨oi, h1, ?_⟩
            have : ¬ (j + 1 = j) := by omega
            simp only [if_true, this, if_false, g1]
            exact hst
          · obtain ⟨oj, k1, k2⟩ := g2 j (by omega) hj'
            have : ¬ (j + 1 = i) := by omega
            refine ⟨oj, k1, ?_⟩
            simp only [hji, this, if_false]
            exact k2
        · have er : List.range' i (ops.size - i) = i :: List.range' (i + 1) (ops.size - (i + 1)) := by
            have : ops.size - i = (ops.size - (i + 1)) + 1 := by omega
            rw [this, List.range'_succ]
          have em : (List.range' (i + 1) (ops.size - (i + 1))).map (fun j => if j = i then f else ff j) = (List.range' (i + 1) (ops.size - (i + 1))).map ff := by
            apply List.map_congr_left
            intro j hj
            have := List.mem_range'_1.1 hj
            rw [if_neg (by omega)]
          rw [er, List.map_cons, em, if_pos rfl]
          simpa using g5
        · have : ¬ (ops.size = i) := by omega
          simp only [this, if_false]
          rw [g6, e4]
        · have : ¬ (ops.size = i) := by omega
          simp only [this, if_false]
          rw [g7, e5]
        · have : ¬ (ops.size = i) := by omega
          simp only [this, if_false]
          exact g8
      have hw' : wantA c.rops oi c.tmps = wantA ops oi c.tmps := by rw [hro]
      split at h
      · cases h
      · rename_i hw
        exact go (v := unitT) (f := .nil) h rfl hro (by simp [hlog]) rfl rfl ⟨rfl, by rw [hlog]; rfl, .inr ⟨hw'.symm.trans hw, rfl, rfl, rfl⟩⟩
      · rename_i hw
        obtain ⟨r, hr', h4⟩ := Option.bind_eq_some_iff.1 h
        have hos := op_sound hF hcall hr'
        cases r with
        | val v m' ft => exact go (v := v) (f := ft) h4 rfl hro (by simp [hlog]) rfl rfl ⟨rfl, by rw [hlog]; rfl, .inl ⟨hw'.symm.trans hw, hos⟩⟩
        | out o' =>
          have hos : OpEnds E.P c oi o' := hos
          have := hos.log
          rw [hlog] at this
          cases this
end
end Go.Ab

/- A region that draws its order: whatever order comes up, memory is a mixture of the text's states. -/
namespace Go.Ab
open Go

/-- A drawn region's run in the text's order, and its checks. -/
structure Drawn (P : Program) (ops : Array Oper) (cf : Nat → Cfg) (vf : Nat → TV) (ff : Nat → Foot) : Prop where
  st : ∀ j, j < ops.size → ∃ oj, ops[j]? = some oj ∧ StepAt P ops (cf j) (cf (j + 1)) oj (vf j) (ff j)
  back : backOk 0 ops.toList = true
  ap : allApart ops (beforeL ops.toList []) 0 ops.toList = true
  ps : ∃ ps, pairs (beforeL ops.toList []) 0 ((List.range' 0 ops.size).map ff) = some ps ∧ ∀ x ∈ ps, x.ok
/-- Must i come ahead of j? -/
def bit (ops : Array Oper) (j i : Nat) : Bool := ((beforeL ops.toList []).getD j 0).testBit i
section
variable {P : Program} {ops : Array Oper} {cf : Nat → Cfg} {vf : Nat → TV} {ff : Nat → Foot} (D : Drawn P ops cf vf ff)
include D
theorem Drawn.pair {i j : Nat} (hij : i < j) (hj : j < ops.size) (hb : bit ops j i = false) : ∃ l, pairUp (ff i) (ff j) = some l ∧ ∀ c ∈ l, c.ok := by
  obtain ⟨ps, h1, h2⟩ := D.ps
  have hget : ∀ k, k < ops.size → ((List.range' 0 ops.size).map ff)[k]? = some (ff k) := by
    intro k hk
    rw [List.getElem?_map, List.getElem?_range' hk]
    simp
  obtain ⟨l, h3, h4⟩ := pairs_spec h1 i j (ff i) (ff j) (hget i (by omega)) (hget j hj) hij (by simpa [bit] using hb)
  exact ⟨l, h3, fun c hc => h2 c (h4 c hc)⟩
theorem Drawn.apart {i j : Nat} {x y : Oper} (hij : i < j) (hx : ops[i]? = some x) (hy : ops[j]? = some y) (hb : bit ops j i = false) : Oper.apart ops x y = true :=
  allApart_spec D.ap i j x y (by simpa using hx) (by simpa using hy) hij (by simpa [bit] using hb)
theorem Drawn.on {j : Nat} {o : Oper} (ho : ops[j]? = some o) {e : Edge} (he : e ∈ o.after.toList) (hb : Region.binds .any e = true) : e.on < j := by
  simpa using backOk_spec D.back j o (by simpa using ho) e he hb
theorem Drawn.pred {j i : Nat} {o : Oper} (ho : ops[j]? = some o) (hb : bit ops j i = true) : ∃ e ∈ o.after.toList, Region.binds .any e = true ∧ (i = e.on ∨ bit ops e.on i = true) := by
  have := beforeL_spec ops.toList [] j o (by simpa using ho) (fun e he hbb => by simpa using D.on ho he hbb) i (by simpa [bit] using hb)
  exact this
theorem Drawn.keeps {j : Nat} (hj : j < ops.size) : Keeps (cf j).mem (cf (j + 1)).mem := by
  obtain ⟨o, _, h⟩ := D.st j hj
  rcases h.does with ⟨_, h1⟩ | ⟨_, _, h1, _⟩
  · exact h1.keeps
  · rw [h1]; exact .refl _
theorem Drawn.keeps_le {i : Nat} : ∀ {j : Nat}, i ≤ j → j ≤ ops.size → Keeps (cf i).mem (cf j).mem
  | 0, h, _ => by
    obtain rfl : i = 0 := by omega
    exact .refl _
  | j + 1, h, hj => by
    rcases Nat.lt_or_ge i (j + 1) with h1 | h1
    · exact (Drawn.keeps_le (by omega) (by omega)).trans (D.keeps (by omega))
    · obtain rfl : i = j + 1 := by omega
      exact .refl _
theorem Drawn.step {j : Nat} (hj : j < ops.size) : ((ff j).wrAll = none ∨ (ff j).wrAll = some ((cf j).mem, (cf (j + 1)).mem)) ∧ ((ff j).al = false → (ff j).wrAll = none → (cf (j + 1)).mem.length = (cf j).mem.length) ∧
    ∀ id, id < (cf j).mem.length → id + 1 ∉ (ff j).wr → (ff j).wrAll = none → (cf (j + 1)).mem[id]? = (cf j).mem[id]? := by
  obtain ⟨o, _, h⟩ := D.st j hj
  rcases h.does with ⟨_, h1⟩ | ⟨_, _, h1, h2⟩
  · exact ⟨h1.wa, h1.al, h1.miss⟩
  · rw [h1, h2]
    exact ⟨.inl rfl, fun _ _ => rfl, fun _ _ _ _ => rfl⟩
/-- A step changes an object. -/
def ch (cf : Nat → Cfg) (j id : Nat) : Prop := (cf (j + 1)).mem[id]? ≠ (cf j).mem[id]?
theorem Drawn.ch_t {j id : Nat} (hj : j < ops.size) (h : ch cf j id) : touched (ff j) (cf j).mem (cf (j + 1)).mem id := by
  obtain ⟨h1, _, h3⟩ := D.step hj
  rcases Nat.lt_or_ge id (cf j).mem.length with hl | hl
  · by_cases hw : id + 1 ∈ (ff j).wr
    · exact .inl hw
    · cases hwa : (ff j).wrAll with
      | none => exact absurd (h3 id hl hw hwa) h
      | some p => exact .inr (.inl ⟨by rw [hwa]; rfl, hl⟩)
  · rcases Nat.lt_or_ge id (cf (j + 1)).mem.length with hl' | hl'
    · exact .inr (.inr ⟨hl, hl'⟩)
    · exact absurd (by rw [List.getElem?_eq_none hl', List.getElem?_eq_none hl]) h
theorem Drawn.acts {j id : Nat} (hj : j < ops.size) (h : ch cf j id) : (ff j).acts = true := by
  have := D.ch_t hj h
  obtain ⟨h1, h2, _⟩ := D.step hj
  unfold Foot.acts
  rcases this with ht | ⟨ht, _⟩ | ⟨ht, ht'⟩
  · cases hw : (ff j).wr with
    | nil => rw [hw] at ht; cases ht
    | cons x l => simp
  · rw [ht]; simp
  · cases hal : (ff j).al with
    | true => simp
    | false =>
      cases hwa : (ff j).wrAll with
      | some p => simp
      | none =>
        have := h2 hal hwa
        omega
/-- Who makes an object acts. -/
theorem Drawn.makes {j id : Nat} (hj : j < ops.size) (h1 : (cf j).mem.length ≤ id) (h2 : id < (cf (j + 1)).mem.length) : (ff j).al = true ∨ (ff j).wrAll.isSome = true := by
  obtain ⟨_, h3, _⟩ := D.step hj
  cases hal : (ff j).al with
  | true => exact .inl rfl
  | false =>
    cases hwa : (ff j).wrAll with
    | some p => exact .inr rfl
    | none =>
      have := h3 hal hwa
      omega
/-- Two that may come either way: what the one looks at, the other leaves alone. -/
theorem Drawn.clash {i j id : Nat} (hij : i < j) (hj : j < ops.size) (hb : bit ops j i = false) : (ch cf i id → id + 1 ∈ (ff j).rd ∨ id + 1 ∈ (ff j).wr → (cf i).mem.length ≤ id) ∧ (ch cf j id → id + 1 ∈ (ff i).rd ∨ id + 1 ∈ (ff i).wr → (cf j).mem.length ≤ id) := by
  obtain ⟨l, hp, hc⟩ := D.pair hij hj hb
  have hi : i < ops.size := by omega
  constructor
  · intro hch hx
    rcases Nat.lt_or_ge id (cf i).mem.length with hl | hl
    · exfalso
      have ht := D.ch_t hi hch
      unfold pairUp at hp
      split at hp
      · rename_i p q hwa
        rcases condO hp with ⟨_, h2⟩ | ⟨hna, h2⟩
        · cases h2
        cases h2
        have hpq : (p, q) = ((cf i).mem, (cf (i + 1)).mem) := by
          rcases (D.step hi).1 with h3 | h3
          · rw [hwa] at h3; cases h3
          · rw [hwa] at h3; cases h3; rfl
        cases hpq
        rcases hx with hx | hx
        · have := hc (.same _ _ (id + 1)) (List.mem_map.2 ⟨id + 1, hx, rfl⟩)
          rcases this with h4 | h4
          · omega
          · exact hch (by simpa using h4.symm)
        · unfold Foot.acts at hna
          cases hw : (ff j).wr with
          | nil => rw [hw] at hx; cases hx
          | cons x l => rw [hw] at hna; simp at hna
      · rename_i p q hwa hwb
        rcases condO hp with ⟨_, h2⟩ | ⟨hna, h2⟩
        · cases h2
        rw [D.acts hi hch] at hna
        cases hna
      · rename_i hwa hwb
        rcases condO hp with ⟨_, h2⟩ | ⟨hna, h2⟩
        · cases h2
        cases h2
        have hw : id + 1 ∈ (ff i).wr := by
          rcases ht with ht | ⟨ht, _⟩ | ht
          · exact ht
          · rw [hwa] at ht; cases ht
          · omega
        have := hc (.ne (id + 1) (id + 1)) (List.mem_append.2 (.inl (List.mem_flatMap.2 ⟨id + 1, hw, List.mem_map.2 ⟨id + 1, List.mem_append.2 hx, rfl⟩⟩)))
        rcases this with h4 | h4
        · omega
        · exact h4 rfl
    · exact hl
  · intro hch hx
    rcases Nat.lt_or_ge id (cf j).mem.length with hl | hl
    · exfalso
      have ht := D.ch_t hj hch
      unfold pairUp at hp
      split at hp
      · rename_i p q hwa
        rcases condO hp with ⟨_, h2⟩ | ⟨hna, h2⟩
        · cases h2
        rw [D.acts hj hch] at hna
        cases hna
      · rename_i p q hwa hwb
        rcases condO hp with ⟨_, h2⟩ | ⟨hna, h2⟩
        · cases h2
        cases h2
        have hpq : (p, q) = ((cf j).mem, (cf (j + 1)).mem) := by
          rcases (D.step hj).1 with h3 | h3
          · rw [hwb] at h3; cases h3
          · rw [hwb] at h3; cases h3; rfl
        cases hpq
        rcases hx with hx | hx
        · have := hc (.same _ _ (id + 1)) (List.mem_map.2 ⟨id + 1, hx, rfl⟩)
          rcases this with h4 | h4
          · omega
          · exact hch (by simpa using h4.symm)
        · unfold Foot.acts at hna
          cases hw : (ff i).wr with
          | nil => rw [hw] at hx; cases hx
          | cons x l => rw [hw] at hna; simp at hna
      · rename_i hwa hwb
        rcases condO hp with ⟨_, h2⟩ | ⟨hna, h2⟩
        · cases h2
        cases h2
        have hw : id + 1 ∈ (ff j).wr := by
          rcases ht with ht | ⟨ht, _⟩ | ht
          · exact ht
          · rw [hwb] at ht; cases ht
          · omega
        have hc2 : Con.ne (id + 1) (id + 1) ∈ (ff i).wr.flatMap (fun a => ((ff j).rd ++ (ff j).wr).map fun b => Con.ne a b) ++ (ff i).rd.flatMap (fun a => (ff j).wr.map fun b => Con.ne a b) := by
          rcases hx with hx | hx
          · exact List.mem_append.2 (.inr (List.mem_flatMap.2 ⟨id + 1, hx, List.mem_map.2 ⟨id + 1, hw, rfl⟩⟩))
          · exact List.mem_append.2 (.inl (List.mem_flatMap.2 ⟨id + 1, hx, List.mem_map.2 ⟨id + 1, List.mem_append.2 (.inr hw), rfl⟩⟩))
        rcases hc _ hc2 with h4 | h4
        · omega
        · exact h4 rfl
    · exact hl
/-- One that looks at all memory: it comes neither way with one that changes any. -/
theorem Drawn.clashAll {i j id : Nat} (hij : i < j) (hj : j < ops.size) (hb : bit ops j i = false) : (ch cf i id → ¬ ((ff j).rdAll = true ∨ (ff j).wrAll.isSome = true)) ∧ (ch cf j id → ¬ ((ff i).rdAll = true ∨ (ff i).wrAll.isSome = true)) := by
  obtain ⟨l, hp, hc⟩ := D.pair hij hj hb
  have hi : i < ops.size := by omega
  have tch : ∀ {k : Nat}, k < ops.size → ch cf k id → (ff k).wrAll = none → (!(ff k).wr.isEmpty || (ff k).al) = true := by
    intro k hk hch hwa
    have := D.acts hk hch
    rcases D.ch_t hk hch with ht | ⟨ht, _⟩ | ⟨h1, h2⟩
    · cases hw : (ff k).wr with
      | nil => rw [hw] at ht; cases ht
      | cons x l => simp
    · rw [hwa] at ht; cases ht
    · rcases D.makes hk h1 h2 with h3 | h3
      · rw [h3]; simp
      · rw [hwa] at h3; cases h3
  constructor
  · intro hch hall
    unfold pairUp at hp
    split at hp
    · rcases condO hp with ⟨_, h2⟩ | ⟨hna, h2⟩
      · cases h2
      unfold Foot.acts at hna
      rcases hall with h3 | h3 <;> rw [h3] at hna <;> simp at hna
    · rcases condO hp with ⟨_, h2⟩ | ⟨hna, h2⟩
      · cases h2
      rw [D.acts hi hch] at hna
      cases hna
    · rename_i hwa hwb
      rcases condO hp with ⟨_, h2⟩ | ⟨hna, h2⟩
      · cases h2
      have h4 := tch hi hch hwa
      rcases hall with h3 | h3
      · rw [h3, h4] at hna
        simp at hna
      · rw [hwb] at h3; cases h3
  · intro hch hall
    unfold pairUp at hp
    split at hp
    · rcases condO hp with ⟨_, h2⟩ | ⟨hna, h2⟩
      · cases h2
      rw [D.acts hj hch] at hna
      cases hna
    · rename_i hwa hwb
      rcases condO hp with ⟨_, h2⟩ | ⟨hna, h2⟩
      · cases h2
      unfold Foot.acts at hna
      rcases hall with h3 | h3 <;> rw [h3] at hna <;> simp at hna
    · rename_i hwa hwb
      rcases condO hp with ⟨_, h2⟩ | ⟨hna, h2⟩
      · cases h2
      have h4 := tch hj hch hwb
      rcases hall with h3 | h3
      · rw [h3, h4] at hna
        simp at hna
      · rw [hwa] at h3; cases h3
end
end Go.Ab

/- A drawn region's memory and temporaries, whatever has been carried out. -/
namespace Go.Ab
open Go
open Classical

/-- What an object has come to, if those of 'S' have been carried out. -/
noncomputable def MV (cf : Nat → Cfg) (S : Nat → Prop) (x : Option AObj) (id : Nat) : Nat → Option AObj
  | 0 => x
  | j + 1 => if S j ∧ ch cf j id then (cf (j + 1)).mem[id]? else MV cf S x id j
theorem MV_congr {cf : Nat → Cfg} {S S' : Nat → Prop} {x : Option AObj} {id : Nat} : ∀ {n : Nat}, (∀ i, i < n → ch cf i id → (S i ↔ S' i)) → MV cf S x id n = MV cf S' x id n
  | 0, _ => rfl
  | n + 1, h => by
    have ih := MV_congr (x := x) (n := n) fun i hi => h i (by omega)
    simp only [MV]
    by_cases hc : ch cf n id
    · have := h n (by omega) hc
      by_cases hs : S n
      · rw [if_pos ⟨hs, hc⟩, if_pos ⟨this.1 hs, hc⟩]
      · rw [if_neg (fun h => hs h.1), if_neg (fun h => hs (this.2 h.1)), ih]
    · rw [if_neg (fun h => hc h.2), if_neg (fun h => hc h.2), ih]
theorem MV_none {cf : Nat → Cfg} {S : Nat → Prop} {x : Option AObj} {id : Nat} : ∀ {n : Nat}, (∀ i, i < n → S i → ¬ ch cf i id) → MV cf S x id n = x
  | 0, _ => rfl
  | n + 1, h => by
    simp only [MV]
    rw [if_neg (fun hh => h n (by omega) hh.1 hh.2)]
    exact MV_none fun i hi => h i (by omega)
theorem MV_text {cf : Nat → Cfg} {x : Option AObj} {id : Nat} (hx : ∀ o, (cf 0).mem[id]? = some o → x = some o) : ∀ {j : Nat} {o : AObj}, (cf j).mem[id]? = some o → MV cf (fun _ => True) x id j = some o
  | 0, o, h => hx o h
  | j + 1, o, h => by
    simp only [MV]
    by_cases hc : ch cf j id
    · rw [if_pos ⟨trivial, hc⟩]
      exact h
    · rw [if_neg (fun hh => hc hh.2)]
      refine MV_text hx ?_
      unfold ch at hc
      rw [← h]
      exact (not_not.1 hc).symm
theorem MV_before {cf : Nat → Cfg} {x : Option AObj} {id : Nat} {j : Nat} : ∀ {n : Nat}, j ≤ n → MV cf (fun i => i < j) x id n = MV cf (fun _ => True) x id j
  | 0, h => by
    obtain rfl : j = 0 := by omega
    rfl
  | n + 1, h => by
    rcases Nat.lt_or_ge j (n + 1) with h1 | h1
    · simp only [MV]
      rw [if_neg (fun hh => by have := hh.1; omega)]
      exact MV_before (by omega)
    · obtain rfl : j = n + 1 := by omega
      exact MV_congr fun i hi _ => ⟨fun _ => trivial, fun _ => hi⟩
/-- An object is as the text's order has it ahead of j. -/
theorem MV_is {cf : Nat → Cfg} {S : Nat → Prop} {x : Option AObj} {id j n : Nat} {o : AObj} (hx : ∀ o, (cf 0).mem[id]? = some o → x = some o) (hj : j ≤ n) (ho : (cf j).mem[id]? = some o) (h : ∀ i, i < n → ch cf i id → (S i ↔ i < j)) : MV cf S x id n = some o := by
  rw [MV_congr h, MV_before hj]
  exact MV_text hx ho
theorem MV_one {cf : Nat → Cfg} {S : Nat → Prop} {x : Option AObj} {id j : Nat} : ∀ {n : Nat}, j < n → (ch cf j id → ∀ i, j < i → i < n → ch cf i id → ¬ S i) →
    MV cf (fun i => S i ∨ i = j) x id n = if ch cf j id then (cf (j + 1)).mem[id]? else MV cf S x id n
  | 0, h, _ => by omega
  | n + 1, hj, h => by
    simp only [MV]
    rcases Nat.lt_or_ge j n with h1 | h1
    · have ih := MV_one (S := S) (x := x) h1 fun hc i hi hi' => h hc i hi (by omega)
      by_cases hcn : ch cf n id
      · by_cases hs : S n
        · have hnc : ¬ ch cf j id := fun hc => h hc n h1 (by omega) hcn hs
          rw [if_pos ⟨.inl hs, hcn⟩, if_neg hnc, if_pos ⟨hs, hcn⟩]
        · rw [if_neg (by rintro ⟨h2 | h2, _⟩; exact hs h2; omega), ih, if_neg (c := S n ∧ ch cf n id) (fun h2 => hs h2.1)]
      · rw [if_neg (fun h2 => hcn h2.2), ih, if_neg (c := S n ∧ ch cf n id) (fun h2 => hcn h2.2)]
    · obtain rfl : j = n := by omega
      by_cases hc : ch cf j id
      · rw [if_pos ⟨.inr rfl, hc⟩, if_pos hc]
      · rw [if_neg (fun h2 => hc h2.2), if_neg hc, if_neg (fun h2 => hc h2.2)]
        exact MV_congr fun i hi _ => ⟨fun h2 => h2.resolve_right (by omega), fun h2 => .inl h2⟩
/-- An object that is not what it was at first is as some step left it. -/
theorem MV_some {cf : Nat → Cfg} {S : Nat → Prop} {x : Option AObj} {id : Nat} {o : AObj} : ∀ {n : Nat}, MV cf S x id n = some o → x = some o ∨ ∃ j, j < n ∧ S j ∧ (cf (j + 1)).mem[id]? = some o
  | 0, h => .inl h
  | n + 1, h => by
    simp only [MV] at h
    split at h
    · rename_i hs
      exact .inr ⟨n, by omega, hs.1, h⟩
    · rcases MV_some h with h1 | ⟨j, h1, h2⟩
      · exact .inl h1
      · exact .inr ⟨j, by omega, h2⟩

def sets (ops : Array Oper) (j d : Nat) : Prop := ∃ o, ops[j]? = some o ∧ o.dst = some d
/-- What a temporary has come to. -/
noncomputable def TVs (ops : Array Oper) (cf : Nat → Cfg) (vf : Nat → TV) (S : Nat → Prop) (d : Nat) : Nat → Option TV
  | 0 => (cf 0).tmps[d]?
  | j + 1 => if S j ∧ sets ops j d then (if d < (cf 0).tmps.length then some (vf j) else none) else TVs ops cf vf S d j
section
variable {ops : Array Oper} {cf : Nat → Cfg} {vf : Nat → TV}
theorem TVs_congr {S S' : Nat → Prop} {d : Nat} : ∀ {n : Nat}, (∀ i, i < n → sets ops i d → (S i ↔ S' i)) → TVs ops cf vf S d n = TVs ops cf vf S' d n
  | 0, _ => rfl
  | n + 1, h => by
    have ih := TVs_congr (n := n) fun i hi => h i (by omega)
    simp only [TVs]
    by_cases hc : sets ops n d
    · have := h n (by omega) hc
      by_cases hs : S n
      · rw [if_pos (c := S n ∧ sets ops n d) ⟨hs, hc⟩, if_pos (c := S' n ∧ sets ops n d) ⟨this.1 hs, hc⟩]
      · rw [if_neg (fun h => hs h.1), if_neg (fun h => hs (this.2 h.1)), ih]
    · rw [if_neg (fun h => hc h.2), if_neg (fun h => hc h.2), ih]
theorem TVs_before {d : Nat} {j : Nat} : ∀ {n : Nat}, j ≤ n → TVs ops cf vf (fun i => i < j) d n = TVs ops cf vf (fun _ => True) d j
  | 0, h => by
    obtain rfl : j = 0 := by omega
    rfl
  | n + 1, h => by
    rcases Nat.lt_or_ge j (n + 1) with h1 | h1
    · simp only [TVs]
      rw [if_neg (fun hh => by have := hh.1; omega)]
      exact TVs_before (by omega)
    · obtain rfl : j = n + 1 := by omega
      exact TVs_congr fun i hi _ => ⟨fun _ => trivial, fun _ => hi⟩
theorem TVs_one {S : Nat → Prop} {d j : Nat} : ∀ {n : Nat}, j < n → (sets ops j d → ∀ i, j < i → i < n → sets ops i d → ¬ S i) →
    TVs ops cf vf (fun i => S i ∨ i = j) d n = if sets ops j d then (if d < (cf 0).tmps.length then some (vf j) else none) else TVs ops cf vf S d n
  | 0, h, _ => by omega
  | n + 1, hj, h => by
    simp only [TVs]
    rcases Nat.lt_or_ge j n with h1 | h1
    · have ih := TVs_one (S := S) h1 fun hc i hi hi' => h hc i hi (by omega)
      by_cases hcn : sets ops n d
      · by_cases hs : S n
        · have hnc : ¬ sets ops j d := fun hc => h hc n h1 (by omega) hcn hs
          rw [if_pos (c := (S n ∨ n = j) ∧ sets ops n d) ⟨.inl hs, hcn⟩, if_neg hnc, if_pos (c := S n ∧ sets ops n d) ⟨hs, hcn⟩]
        · rw [if_neg (by rintro ⟨h2 | h2, _⟩; exact hs h2; omega), ih, if_neg (c := S n ∧ sets ops n d) (fun h2 => hs h2.1)]
      · rw [if_neg (fun h2 => hcn h2.2), ih, if_neg (c := S n ∧ sets ops n d) (fun h2 => hcn h2.2)]
    · obtain rfl : j = n := by omega
      by_cases hc : sets ops j d
      · rw [if_pos (c := (S j ∨ j = j) ∧ sets ops j d) ⟨.inr rfl, hc⟩, if_pos hc]
      · rw [if_neg (fun h2 => hc h2.2), if_neg hc, if_neg (fun h2 => hc h2.2)]
        exact TVs_congr fun i hi _ => ⟨fun h2 => h2.resolve_right (by omega), fun h2 => .inl h2⟩
end
end Go.Ab

/- A drawn region is carried out, in whatever order. -/
namespace Go.Ab
open Go
open Classical

/-- What holds when those of 'S' have been carried out. -/
structure Mix (P : Program) (ops : Array Oper) (cf : Nat → Cfg) (vf : Nat → TV) (ff : Nat → Foot) (M0 : Mem) (G : Gh) (M : Mem) (T : List TV) (S : Nat → Prop) (a : Act) (w : World) : Prop where
  rel : Rel G M w
  len : M.length = (cf ops.size).mem.length
  mem : ∀ id, M[id]? = MV cf S M0[id]? id ops.size
  tm : TmR G M w T a.tmps
  tl : T.length = (cf 0).tmps.length
  tms : ∀ d, T[d]? = TVs ops cf vf S d ops.size
  closed : ∀ j, j < ops.size → S j → ∀ i, bit ops j i = true → S i
  live : ∀ (id : Nat) (o : AObj), M[id]? = some o → o.live = true → ∀ i, i < ops.size → (cf i).mem.length ≤ id → id < (cf (i + 1)).mem.length → S i
  wr : ∀ i, i < ops.size → S i → ∀ id, id + 1 ∈ (ff i).wr → ∀ k, k < ops.size → (cf k).mem.length ≤ id → id < (cf (k + 1)).mem.length → S k
  defers : a.defers = []
section
variable {P : Program} {ops : Array Oper} {cf : Nat → Cfg} {vf : Nat → TV} {ff : Nat → Foot} {M0 : Mem} {G : Gh} {M : Mem} {T : List TV} {S : Nat → Prop} {a : Act} {w : World}
theorem Drawn.len_le (D : Drawn P ops cf vf ff) {i j : Nat} (h : i ≤ j) (hj : j ≤ ops.size) : (cf i).mem.length ≤ (cf j).mem.length := (D.keeps_le h hj).le
/-- What a temporary holds in the text's order. -/
theorem Drawn.tmps (D : Drawn P ops cf vf ff) : ∀ {j : Nat}, j ≤ ops.size → (cf j).tmps.length = (cf 0).tmps.length ∧ ∀ d, (cf j).tmps[d]? = TVs ops cf vf (fun _ => True) d j
  | 0, _ => ⟨rfl, fun _ => rfl⟩
  | j + 1, hj => by
    obtain ⟨h1, h2⟩ := D.tmps (j := j) (by omega)
    obtain ⟨o, ho, hst⟩ := D.st j (by omega)
    rw [hst.tmps]
    cases hd : o.dst with
    | none =>
      refine ⟨h1, fun d => ?_⟩
      simp only [putT, TVs]
      rw [if_neg (c := True ∧ sets ops j d)]
      · exact h2 d
      · rintro ⟨_, o', ho', hd'⟩
        rw [ho] at ho'
        cases ho'
        rw [hd] at hd'
        cases hd'
    | some d0 =>
      refine ⟨by simp [putT, h1], fun d => ?_⟩
      simp only [putT, TVs, List.getElem?_set]
      by_cases hdd : d0 = d
      · subst hdd
        rw [if_pos rfl, h1, if_pos (c := True ∧ sets ops j d0) ⟨trivial, o, ho, hd⟩]
      · rw [if_neg hdd, if_neg (c := True ∧ sets ops j d)]
        · exact h2 d
        · rintro ⟨_, o', ho', hd'⟩
          rw [ho] at ho'
          cases ho'
          rw [hd] at hd'
          cases hd'
          exact hdd rfl
theorem ch_lt {i id : Nat} (D : Drawn P ops cf vf ff) (hi : i < ops.size) (h : ch cf i id) : id < (cf (i + 1)).mem.length := by
  rcases Nat.lt_or_ge id (cf (i + 1)).mem.length with h1 | h1
  · exact h1
  · have := D.len_le (i := i) (j := i + 1) (by omega) (by omega)
    exact absurd (by rw [List.getElem?_eq_none h1, List.getElem?_eq_none (by omega)]) h
theorem ch_new {i id : Nat} (h1 : (cf i).mem.length ≤ id) (h2 : id < (cf (i + 1)).mem.length) : ch cf i id := by
  unfold ch
  rw [List.getElem?_eq_none h1, List.getElem?_eq_getElem h2]
  simp
theorem Mix.nobit (X : Mix P ops cf vf ff M0 G M T S a w) {i j : Nat} (hi : i < ops.size) (hSi : S i) (hSj : ¬ S j) : bit ops i j = false := by
  cases hb : bit ops i j with
  | false => rfl
  | true => exact absurd (X.closed i hi hSi j hb) hSj
/-- The first memory, with room for all. -/
def Padm (cf : Nat → Cfg) (N : Nat) (M0 : Mem) : Prop := (∀ (id : Nat) (o : AObj), (cf 0).mem[id]? = some o → M0[id]? = some o) ∧ M0.length = (cf N).mem.length ∧ ∀ id, (cf 0).mem.length ≤ id → id < M0.length → M0[id]? = some AObj.none
theorem Mix.agree (D : Drawn P ops cf vf ff) (hP : Padm cf ops.size M0) (X : Mix P ops cf vf ff M0 G M T S a w) {j : Nat} (hj : j < ops.size) (hS : ¬ S j) (hready : ∀ i, bit ops j i = true → S i)
    (hids : ∀ id, id + 1 ∈ (ff j).rd ∨ id + 1 ∈ (ff j).wr → ∃ ob : AObj, M[id]? = some ob ∧ ob.live = true) : Agree (ff j) (cf j).mem (cf (j + 1)).mem M := by
  have hall : (ff j).rdAll = true ∨ (ff j).wrAll.isSome = true → ∀ id i, i < ops.size → ch cf i id → (S i ↔ i < j) := by
    intro h id i hi hch
    rcases Nat.lt_trichotomy i j with hij | hij | hij
    · refine ⟨fun _ => hij, fun _ => ?_⟩
      cases hb : bit ops j i with
      | true => exact hready i hb
      | false => exact absurd h ((D.clashAll hij hj hb).1 hch)
    · subst hij
      exact ⟨fun h2 => absurd h2 hS, fun h2 => by omega⟩
    · refine ⟨fun hSi => ?_, fun h2 => by omega⟩
      exact absurd h ((D.clashAll hij hi (X.nobit hi hSi hS)).2 hch)
  have key : ∀ (id : Nat) (o : AObj), id + 1 ∈ (ff j).rd ∨ id + 1 ∈ (ff j).wr → (cf j).mem[id]? = some o → M[id]? = some o := by
    intro id o hk ho
    rw [X.mem id]
    have hlt := (List.getElem?_eq_some_iff.1 ho).1
    refine MV_is (hP.1 id) (by omega) ho fun i hi hch => ?_
    rcases Nat.lt_trichotomy i j with hij | hij | hij
    · refine ⟨fun _ => hij, fun _ => ?_⟩
      cases hb : bit ops j i with
      | true => exact hready i hb
      | false =>
        have h1 := (D.clash (id := id) hij hj hb).1 hch hk
        obtain ⟨ob, h2, h3⟩ := hids id hk
        exact X.live id ob h2 h3 i hi h1 (ch_lt D hi hch)
    · subst hij
      exact ⟨fun h2 => absurd h2 hS, fun h2 => by omega⟩
    · refine ⟨fun hSi => ?_, fun h2 => by omega⟩
      have h1 := (D.clash (id := id) hij hi (X.nobit hi hSi hS)).2 hch hk
      have := D.len_le (i := j) (j := i) (by omega) (by omega)
      omega
  exact
    { len := by rw [X.len]; exact D.len_le (by omega) (by omega)
      le := D.len_le (by omega) (by omega)
      rd := fun id o h ho => key id o (.inl h) ho
      wr := fun id o h ho => key id o (.inr h) ho
      all := fun h => ⟨fun id o ho => by
        rw [X.mem id]
        exact MV_is (hP.1 id) (by omega) ho fun i hi hch => hall h id i hi hch, fun id o hid ho => by
        rw [X.mem id, MV_none] at ho
        · have h0 := D.len_le (i := 0) (j := j) (by omega) (by omega)
          have hlt := (List.getElem?_eq_some_iff.1 ho).1
          rw [hP.2.2 id (by omega) hlt] at ho
          cases ho
          rfl
        · intro i hi hSi hch
          have h1 := (hall h id i hi hch).1 hSi
          have h2 := ch_lt D hi hch
          have := D.len_le (i := i + 1) (j := j) (by omega) (by omega)
          omega⟩
      ks := fun id o o' ho ho' hl => by
        rw [X.mem id] at ho'
        rcases MV_some ho' with h1 | ⟨k, hk, _, h1⟩
        · rcases Nat.lt_or_ge id (cf 0).mem.length with h2 | h2
          · have h3 := hP.1 id _ (List.getElem?_eq_getElem h2)
            rw [h1] at h3
            cases h3
            obtain ⟨o'', h4, h5⟩ := D.keeps_le (i := 0) (j := j) (by omega) (by omega) id _ (List.getElem?_eq_getElem h2)
            rw [ho] at h4
            cases h4
            exact h5.symm
          · rw [hP.2.2 id h2 (List.getElem?_eq_some_iff.1 h1).1] at h1
            cases h1
            cases hl
        · rcases Nat.le_total (k + 1) j with h2 | h2
          · obtain ⟨o'', h4, h5⟩ := D.keeps_le h2 (by omega) id _ h1
            rw [ho] at h4
            cases h4
            exact h5.symm
          · obtain ⟨o'', h4, h5⟩ := D.keeps_le h2 (by omega) id _ ho
            rw [h1] at h4
            cases h4
            exact h5
      new := fun id h1 h2 => by
        have hN := D.len_le (i := j + 1) (j := ops.size) (by omega) (by omega)
        have h0 := D.len_le (i := 0) (j := j) (by omega) (by omega)
        refine ⟨AObj.none, ?_, rfl⟩
        rw [X.mem id, MV_none]
        · exact hP.2.2 id (by omega) (by rw [hP.2.1]; omega)
        · intro i hi hSi hch
          have h3 := ch_lt D hi hch
          have hij : j < i := by
            rcases Nat.lt_trichotomy i j with hij | hij | hij
            · have := D.len_le (i := i + 1) (j := j) (by omega) (by omega)
              omega
            · subst hij
              exact absurd hSi hS
            · exact hij
          rcases D.ch_t hi hch with ht | ⟨ht, _⟩ | ⟨ht, _⟩
          · exact hS (X.wr i hi hSi id ht j hj h1 h2)
          · exact (D.clashAll hij hi (X.nobit hi hSi hS)).1 (ch_new h1 h2) (.inr ht)
          · have := D.len_le (i := j + 1) (j := i) (by omega) (by omega)
            omega }
/-- What an operation looks at is as in the text's order. -/
theorem Mix.looks (D : Drawn P ops cf vf ff) (X : Mix P ops cf vf ff M0 G M T S a w) {j : Nat} {o : Oper} (ho : ops[j]? = some o) (hS : ¬ S j) (hready : ∀ i, bit ops j i = true → S i) {d : Nat} (hd : d ∈ o.looksAt ops) : T[d]? = (cf j).tmps[d]? := by
  have hj : j < ops.size := (Array.getElem?_eq_some_iff.1 ho).1
  rw [X.tms d, (D.tmps (by omega)).2 d, ← TVs_before (n := ops.size) (by omega)]
  refine TVs_congr fun i hi hs => ?_
  obtain ⟨oi, hoi, hdi⟩ := hs
  rcases Nat.lt_trichotomy i j with hij | hij | hij
  · refine ⟨fun _ => hij, fun _ => ?_⟩
    cases hb : bit ops j i with
    | true => exact hready i hb
    | false => exact absurd hd ((Oper.apart_spec (D.apart hij hoi ho hb)).1 d hdi)
  · subst hij
    exact ⟨fun h2 => absurd h2 hS, fun h2 => by omega⟩
  · refine ⟨fun hSi => ?_, fun h2 => by omega⟩
    exact absurd hd ((Oper.apart_spec (D.apart hij ho hoi (X.nobit hi hSi hS))).2.2 d hdi)
theorem Mix.put (D : Drawn P ops cf vf ff) (X : Mix P ops cf vf ff M0 G M T S a w) {j : Nat} {o : Oper} (ho : ops[j]? = some o) (hS : ¬ S j) (hready : ∀ i, bit ops j i = true → S i)
    (hids : ∀ id, id + 1 ∈ (ff j).rd ∨ id + 1 ∈ (ff j).wr → ∃ ob : AObj, M[id]? = some ob ∧ ob.live = true) (hA : Agree (ff j) (cf j).mem (cf (j + 1)).mem M) {G' : Gh} {M' : Mem} {w' : World} {u : Value}
    (hM : Merge (ff j) (cf j).mem (cf (j + 1)).mem M M') (hev : Ev G M w G' M' w') (hrl : Rel G' M' w') (hv : TVR G' M' w' (vf j) u) :
    Mix P ops cf vf ff M0 G' M' (putT T o.dst (vf j)) (fun i => S i ∨ i = j) (a.put o.dst u) w' := by
  have hj : j < ops.size := (Array.getElem?_eq_some_iff.1 ho).1
  have later : ∀ id, ch cf j id → ∀ i, j < i → i < ops.size → ch cf i id → ¬ S i := by
    intro id hch i hij hi hchi hSi
    have hb := X.nobit hi hSi hS
    have hlt := ch_lt D hj hch
    have hle := D.len_le (i := j + 1) (j := i) (by omega) (by omega)
    rcases D.ch_t hj hch with ht | ⟨ht, _⟩ | ⟨ht1, ht2⟩
    · have := (D.clash (id := id) hij hi hb).2 hchi (.inr ht)
      omega
    · exact (D.clashAll hij hi hb).2 hchi (.inr ht)
    · rcases D.ch_t hi hchi with h3 | ⟨h3, _⟩ | ⟨h3, _⟩
      · exact hS (X.wr i hi hSi id h3 j hj ht1 ht2)
      · exact (D.clashAll hij hi hb).1 hch (.inr h3)
      · omega
  -- what is not changed is as it was
  have same : ∀ id, ¬ ch cf j id → M'[id]? = M[id]? := by
    intro id hch
    by_cases ht : touched (ff j) (cf j).mem (cf (j + 1)).mem id
    · rcases Nat.lt_or_ge id (cf (j + 1)).mem.length with hl | hl
      · have h1 := List.getElem?_eq_getElem hl
        have h2 : (cf j).mem[id]? = some (cf (j + 1)).mem[id] := by
          rw [← h1]
          unfold ch at hch
          exact (not_not.1 hch).symm
        rw [hM.hit id _ ht h1]
        rcases ht with h3 | ⟨h3, _⟩ | ⟨h3, h4⟩
        · exact (hA.wr id _ h3 h2).symm
        · exact ((hA.all (.inr h3)).1 id _ h2).symm
        · exact absurd (ch_new h3 h4) hch
      · exact hM.dom id hl
    · exact hM.miss id ht
  exact
    { rel := hrl
      len := by rw [hM.len]; exact X.len
      mem := fun id => by
        rw [MV_one hj (later id)]
        by_cases hch : ch cf j id
        · rw [if_pos hch]
          have hl := ch_lt D hj hch
          rw [hM.hit id _ (D.ch_t hj hch) (List.getElem?_eq_getElem hl), List.getElem?_eq_getElem hl]
        · rw [if_neg hch, same id hch]
          exact X.mem id
      tm := (hev.tm X.tm).put o.dst hv
      tl := by
        have := X.tl
        cases o.dst <;> simp [putT, this]
      tms := fun d => by
        rw [TVs_one hj]
        · cases hd : o.dst with
          | none =>
            rw [if_neg]
            · exact X.tms d
            · rintro ⟨o', ho', hd'⟩
              rw [ho] at ho'
              cases ho'
              rw [hd] at hd'
              cases hd'
          | some d0 =>
            simp only [putT, List.getElem?_set]
            by_cases hdd : d0 = d
            · subst hdd
              rw [if_pos rfl, if_pos (c := sets ops j d0) ⟨o, ho, hd⟩, X.tl]
            · rw [if_neg hdd, if_neg]
              · exact X.tms d
              · rintro ⟨o', ho', hd'⟩
                rw [ho] at ho'
                cases ho'
                rw [hd] at hd'
                cases hd'
                exact hdd rfl
        · rintro ⟨o', ho', hd'⟩ i hij hi ⟨oi, hoi, hdi⟩ hSi
          rw [ho] at ho'
          cases ho'
          exact (Oper.apart_spec (D.apart hij ho hoi (X.nobit hi hSi hS))).2.1 d hd' hdi
      closed := fun k hk hSk i hb => by
        rcases hSk with hSk | rfl
        · exact .inl (X.closed k hk hSk i hb)
        · exact .inl (hready i hb)
      live := fun id ob hob hl k hk h1 h2 => by
        by_cases hch : ch cf j id
        · rcases D.ch_t hj hch with ht | ⟨ht, ht'⟩ | ⟨h3, h4⟩
          · obtain ⟨ob', h5, h6⟩ := hids id (.inr ht)
            exact .inl (X.live id ob' h5 h6 k hk h1 h2)
          · have hkj : k < j := by
              rcases Nat.lt_or_ge k j with h5 | h5
              · exact h5
              · have := D.len_le (i := j) (j := k) h5 (by omega)
                omega
            cases hb : bit ops j k with
            | true => exact .inl (hready k hb)
            | false => exact absurd (.inr ht) ((D.clashAll hkj hj hb).1 (ch_new h1 h2))
          · refine .inr ?_
            rcases Nat.lt_trichotomy k j with h5 | h5 | h5
            · have := D.len_le (i := k + 1) (j := j) (by omega) (by omega)
              omega
            · exact h5
            · have := D.len_le (i := j + 1) (j := k) (by omega) (by omega)
              omega
        · rw [same id hch] at hob
          exact .inl (X.live id ob hob hl k hk h1 h2)
      wr := fun i hi hSi id hid k hk h1 h2 => by
        rcases hSi with hSi | rfl
        · exact .inl (X.wr i hi hSi id hid k hk h1 h2)
        · obtain ⟨ob', h5, h6⟩ := hids id (.inr hid)
          exact .inl (X.live id ob' h5 h6 k hk h1 h2)
      defers := by rw [put_defers]; exact X.defers }
/-- What an operation's operands hold. -/
theorem Mix.oper (D : Drawn P ops cf vf ff) (X : Mix P ops cf vf ff M0 G M T S a w) {j : Nat} {o : Oper} (ho : ops[j]? = some o) (hS : ¬ S j) (hready : ∀ i, bit ops j i = true → S i) :
    OperR G M w (cf j) o a ∧ ∀ d, (∃ k want, o.guard = some (k, want) ∧ (ops[k]?).bind (·.dst) = some d) → TVR G M w (getT (cf j).tmps d) (a.tmps.getD d undef) := by
  have look : ∀ d, d ∈ o.looksAt ops → TVR G M w (getT (cf j).tmps d) (a.tmps.getD d undef) := by
    intro d hd
    have h1 := X.looks D ho hS hready hd
    have h2 := ev_r X.tm (.tmp d)
    simp only [ev, getT, h1] at h2
    exact h2
  constructor
  · intro x hx
    cases x with
    | tmp d =>
      refine look d ?_
      unfold Oper.looksAt
      refine List.mem_append.2 (.inl (List.mem_filterMap.2 ⟨.tmp d, Array.mem_toList_iff.2 hx, rfl⟩))
    | const v => exact constT_r _ _ _ _
    | func f => exact ev_r X.tm (.func f)
    | global g => exact .bad _
  · rintro d ⟨k, want, hg, hd⟩
    refine look d ?_
    unfold Oper.looksAt
    refine List.mem_append.2 (.inr ?_)
    rw [hg]
    simp [hd]
end
end Go.Ab

/- A region that draws its order does what its text says; every run does. -/
namespace Go.Ab
open Go
open Classical

theorem TVs_none {ops : Array Oper} {cf : Nat → Cfg} {vf : Nat → TV} {d : Nat} : ∀ {n : Nat}, TVs ops cf vf (fun _ => False) d n = (cf 0).tmps[d]?
  | 0 => rfl
  | n + 1 => by
    simp only [TVs]
    rw [if_neg (fun h => h.1)]
    exact TVs_none
theorem count_put : ∀ {l : List Bool} {i : Nat}, l[i]? = some false → (l.set i true).count false + 1 = l.count false
  | [], i, h => by simp at h
  | x :: l, 0, h => by
    simp only [List.getElem?_cons_zero, Option.some.injEq] at h
    subst h
    simp
  | x :: l, i + 1, h => by
    have ih := count_put (l := l) (i := i) (by simpa using h)
    simp only [List.set_cons_succ, List.count_cons]
    omega
section
variable {E : Env}
/-- All that are wanted have been carried out. -/
theorem all_listed {P : Program} {ops : Array Oper} {cf : Nat → Cfg} {vf : Nat → TV} {ff : Nat → Foot} (D : Drawn P ops cf vf ff) {listed : Array Bool} (hr : Region.ready .any ops listed = []) : ∀ i, i < ops.size → listed.getD i true = true := by
  intro i
  induction i using Nat.strongRecOn with
  | _ i ih =>
    intro hi
    cases hl : listed.getD i true with
    | true => rfl
    | false =>
      exfalso
      have : i ∈ Region.ready .any ops listed := by
        refine mem_ready.2 ⟨hl, ops[i], Array.getElem?_eq_getElem hi, fun e he hb => ?_⟩
        have h1 := D.on (Array.getElem?_eq_getElem hi) (Array.mem_toList_iff.2 he) hb
        have h2 := ih e.on h1 (by omega)
        have h3 : e.on < listed.size := by
          rcases Nat.lt_or_ge i listed.size with h4 | h4
          · omega
          · rw [Array.getD_eq_getD_getElem?, Array.getElem?_eq_none h4] at hl
            cases hl
        rw [Array.getD_eq_getD_getElem?, Array.getElem?_eq_getElem h3] at h2 ⊢
        exact h2
      rw [hr] at this
      cases this
theorem draw_run {ops : Array Oper} {cf : Nat → Cfg} {vf : Nat → TV} {ff : Nat → Foot} (D : Drawn E.P ops cf vf ff) {M0 : Mem} (hP : Padm cf ops.size M0) {Q : Exit → Act → World → Prop} {G0 : Gh} {m0 : Mem} {w0 : World}
    (hfin : ∀ G w a, Ev G0 m0 w0 G (cf ops.size).mem w → Rel G (cf ops.size).mem w → TmR G (cf ops.size).mem w (cf ops.size).tmps a.tmps → a.defers = [] → Q .normal a w) :
    ∀ (fuel : Nat) (listed : Array Bool) (G : Gh) (M : Mem) (T : List TV) (a : Act) (w : World), listed.size = ops.size → listed.toList.count false ≤ fuel → Ev G0 m0 w0 G M w → Mix E.P ops cf vf ff M0 G M T (fun i => listed.getD i false = true) a w → wpAny E.P .any ops Q fuel listed a w := by
  have fin : ∀ (listed : Array Bool) (G : Gh) (M : Mem) (T : List TV) (a : Act) (w : World), (∀ i, i < ops.size → listed.getD i false = true) → Ev G0 m0 w0 G M w → Mix E.P ops cf vf ff M0 G M T (fun i => listed.getD i false = true) a w → Q .normal a w := by
    intro listed G M T a w hall hev X
    have hM : M = (cf ops.size).mem := by
      refine List.ext_getElem? fun id => ?_
      rcases Nat.lt_or_ge id (cf ops.size).mem.length with h | h
      · rw [X.mem id, MV_congr (S' := fun _ => True) fun i hi _ => ⟨fun _ => trivial, fun _ => hall i hi⟩]
        rw [List.getElem?_eq_getElem h]
        exact MV_text (hP.1 id) (List.getElem?_eq_getElem h)
      · rw [List.getElem?_eq_none h, List.getElem?_eq_none (by rw [X.len]; exact h)]
    have hT : T = (cf ops.size).tmps := by
      refine List.ext_getElem? fun d => ?_
      rw [X.tms d, (D.tmps (Nat.le_refl _)).2 d]
      exact TVs_congr fun i hi _ => ⟨fun _ => trivial, fun _ => hall i hi⟩
    subst hM
    subst hT
    exact hfin G w a hev X.rel X.tm X.defers
  intro fuel
  induction fuel with
  | zero =>
    intro listed G M T a w hsz hc hev X
    have hall : ∀ i, i < ops.size → listed.getD i true = true := by
      intro i hi
      cases hl : listed.getD i true with
      | true => rfl
      | false =>
        have h1 : listed[i]? = some false := by
          rw [Array.getD_eq_getD_getElem?] at hl
          rw [Array.getElem?_eq_getElem (by omega)] at hl ⊢
          simpa using hl
        have h2 := count_put (l := listed.toList) (i := i) (by simpa using h1)
        omega
    refine ⟨?_, fin listed G M T a w (fun i hi => ?_) hev X⟩
    · cases hr : Region.ready .any ops listed with
      | nil => rfl
      | cons i l =>
        have : i ∈ Region.ready .any ops listed := by rw [hr]; simp
        obtain ⟨h1, o, ho, _⟩ := mem_ready.1 this
        rw [hall i (Array.getElem?_eq_some_iff.1 ho).1] at h1
        cases h1
    · have := hall i hi
      rw [Array.getD_eq_getD_getElem?, Array.getElem?_eq_getElem (by omega)] at this ⊢
      exact this
  | succ fuel ih =>
    intro listed G M T a w hsz hc hev X
    refine ⟨fun hr => fin listed G M T a w (fun i hi => ?_) hev X, fun j hj => ?_⟩
    · have := all_listed D hr i hi
      rw [Array.getD_eq_getD_getElem?, Array.getElem?_eq_getElem (by omega)] at this ⊢
      exact this
    · obtain ⟨hun, o, ho, hafter⟩ := mem_ready.1 hj
      have hjs : j < ops.size := (Array.getElem?_eq_some_iff.1 ho).1
      have hS : ¬ (listed.getD j false = true) := by
        rw [Array.getD_eq_getD_getElem?, Array.getElem?_eq_getElem (by omega)] at hun ⊢
        simpa using hun
      have hready : ∀ i, bit ops j i = true → listed.getD i false = true := by
        intro i hb
        obtain ⟨e, he, hbb, h1⟩ := D.pred ho hb
        have h2 := hafter e (Array.mem_toList_iff.1 he) hbb
        rcases h1 with rfl | h1
        · exact h2
        · exact X.closed e.on (by have := D.on ho he hbb; omega) h2 i h1
      obtain ⟨oj, hoj, hst⟩ := D.st j hjs
      rw [ho] at hoj
      cases hoj
      obtain ⟨hop, hgd⟩ := X.oper D ho hS hready
      have hcount : (listed.setIfInBounds j true).toList.count false ≤ fuel := by
        have h1 : listed[j]? = some false := by
          rw [Array.getD_eq_getD_getElem?] at hun
          rw [Array.getElem?_eq_getElem (by omega)] at hun ⊢
          simpa using hun
        have h2 := count_put (l := listed.toList) (i := j) (by simpa using h1)
        rw [Array.toList_setIfInBounds]
        omega
      have hS' : (fun i => (listed.setIfInBounds j true).getD i false = true) = fun i => listed.getD i false = true ∨ i = j := by
        funext i
        by_cases hij : j = i
        · subst hij
          have : (listed.setIfInBounds j true).getD j false = true := by
            rw [Array.getD_eq_getD_getElem?, Array.getElem?_setIfInBounds_self_of_lt (by omega)]
            rfl
          simp only [this, or_true]
        · rw [getD_set_ne false hij]
          have : ¬ (i = j) := fun h => hij h.symm
          simp only [this, or_false]
      have hids : ∀ id, id + 1 ∈ (ff j).rd ∨ id + 1 ∈ (ff j).wr → ∃ ob : AObj, M[id]? = some ob ∧ ob.live = true := by
        rcases hst.does with ⟨_, h1⟩ | ⟨_, _, _, h1⟩
        · exact h1.ids G M w a hop
        · intro id hid
          rw [h1] at hid
          rcases hid with hid | hid <;> cases hid
      have hA := X.agree D hP hjs hS hready hids
      unfold wpOp
      simp only [ho]
      rcases hst.does with ⟨hw, h1⟩ | ⟨hw, hv, hm, hf⟩
      · have hwant := wanted_r hw hgd
        rw [if_pos hwant]
        refine .inl (h1.run Q G M w a X.rel hop hA (fun hh => ?_) _ fun G' M' w' u hM hev' hrl hv => ?_)
        · rw [hst.log] at hh
          cases hh
        · refine ih _ G' M' (putT T o.dst (vf j)) _ w' (by simpa using hsz) hcount (hev.trans hev') ?_
          rw [hS']
          exact X.put D ho hS hready hids hA hM hev' hrl hv
      · have hwant := wanted_r hw hgd
        rw [if_neg (by rw [hwant]; simp)]
        have hM : Merge (ff j) (cf j).mem (cf (j + 1)).mem M M := by
          rw [hm] at hA ⊢
          exact .same hA
        refine ih _ G M (putT T o.dst (vf j)) _ w (by simpa using hsz) hcount hev ?_
        rw [hS']
        exact X.put D ho hS hready hids hA hM (.refl _ _ _) X.rel (by rw [hv]; exact undefR _ _ _)
theorem draw_ok (hF : Fit E.P) (hext : ∀ g f args m out, E.ext g = some f → f args m = some out → CallsOk E.P g args m out) (n : Nat) (IH : ∀ k, k ≤ n → ∀ c o, runN E k c = some o → Sim E.P c o) (c : Cfg) (o : Out) (hlog : c.log = some []) (hops : c.ops = c.rops.toList) (h : runN E n c = some o) : DrawOk E.P c o := by
  obtain ⟨cf, vf, ff, h0, hst, hback, hap, hps, hfn, htodo, n', hn', hrun⟩ := trace hF hext IH (ops := c.rops) c.ops n 0 c [] (Nat.le_refl _) rfl (by rw [hops]; rfl) (Nat.zero_le _) rfl hlog h
  have D : Drawn E.P c.rops cf vf ff := ⟨fun j hj => hst j (Nat.zero_le _) hj, hback, hap, by simpa using hps⟩
  have hS := IH n' hn' _ _ hrun
  have hk := D.keeps_le (Nat.zero_le c.rops.size) (Nat.le_refl _)
  rw [h0] at hk
  refine ⟨hk.trans hS.keeps, fun b G w a R hb hkd hd hfn' hR ht hp => ?_⟩
  obtain ⟨G₁, e1, r1⟩ := hR.pad ((cf c.rops.size).mem.length - c.mem.length)
  have hle := hk.le
  refine draw_run D (M0 := c.mem ++ List.replicate ((cf c.rops.size).mem.length - c.mem.length) AObj.none) ?_ (G0 := G) (m0 := c.mem) (w0 := w) ?_ c.rops.size _ G₁ _ c.tmps a w (by simp) ?_ e1 ?_
  · refine ⟨fun id ob hob => ?_, by simp; omega, fun id h1 h2 => ?_⟩
    · rw [h0] at hob
      rw [List.getElem?_append_left (List.getElem?_eq_some_iff.1 hob).1]
      exact hob
    · rw [h0] at h1
      simp at h2
      rw [List.getElem?_append_right h1, List.getElem?_replicate, if_pos (by omega)]
  · intro G' w' a' hev hrl htm hd'
    have := (hS.run rfl b G' w' a' R (hb.trans hfn.symm) hkd hd' (by obtain ⟨fn, hf⟩ := hfn'; exact ⟨fn, by rw [← hf, ← hfn]⟩) hrl htm fun e w₂ hq => hp e w₂ (hq.trans hev)).1 rfl
    have h2 : RunsTo E.P b a' (cf c.rops.size).todo w' R := this
    rw [htodo] at h2
    exact h2
  · simp
  · have hfalse : (fun i => (Array.replicate c.rops.size false).getD i false = true) = fun _ => False := by
      funext i
      rw [Array.getD_eq_getD_getElem?, Array.getElem?_replicate]
      split <;> simp
    rw [hfalse]
    exact
      { rel := r1
        len := by simp; omega
        mem := fun id => (MV_none fun i _ h => h.elim).symm
        tm := e1.tm ht
        tl := by rw [h0]
        tms := fun d => by rw [TVs_none, h0]
        closed := fun j _ h => h.elim
        live := fun id ob hob hl i hi h1 h2 => by
          rcases pad_get hob with h3 | ⟨_, rfl⟩
          · have h4 := (List.getElem?_eq_some_iff.1 h3).1
            have h5 := D.len_le (Nat.zero_le i) (Nat.le_of_lt hi)
            rw [h0] at h5
            omega
          · cases hl
        wr := fun i _ h => h.elim
        defers := hd }
/-- Every run of the abstract machine is sound. -/
theorem run_ok (hF : Fit E.P) (hext : ∀ g f args m out, E.ext g = some f → f args m = some out → CallsOk E.P g args m out) (n : Nat) (c : Cfg) (o : Out) (h : runN E n c = some o) : Sim E.P c o :=
  sim_all hF hext (fun n IH c o h1 h2 h3 => draw_ok hF hext n IH c o h1 h2 h3) n c o h
/-- What a function's text answers is what a call of it comes to. -/
theorem ex_calls (hF : Fit E.P) (hext : ∀ g f args m out, E.ext g = some f → f args m = some out → CallsOk E.P g args m out) {g : FuncId} {args : List TE} {m : Mem} {out : Out} (h : ex E (entry E.P g args m) = some out) : CallsOk E.P g args m out := by
  obtain ⟨n, hn⟩ := ex_some.1 h
  exact entry_calls (run_ok hF hext n) hn
end
end Go.Ab

/- What is read as data lies in memory as values that are never written. -/
namespace Go.Ab
open Go

/-- The shape of a type whose values own no pointer. -/
inductive Sh where
  | bool
  | int (k : IntKind)
  | str
  | sl (e : Sh)
  | st (fs : List Sh)
mutual
def Sh.cells : Sh → Nat
  | .st fs => Sh.cellsAll fs
  | _ => 1
def Sh.cellsAll : List Sh → Nat
  | [] => 0
  | f :: fs => f.cells + Sh.cellsAll fs
end
mutual
/-- Data, and the value that is read as it. -/
inductive DR {H : Type} : Sh → DataW H → List PV → Prop
  | bool (b : Bool) : DR .bool (.lit (.bool b)) [.c (.bool b)]
  | int (k : IntKind) (n : Int) (h : (Lit.int k n).wf = true) : DR (.int k) (.lit (.int k n)) [.c (.int k n)]
  | str (s : ByteArray) (h : s.size ≤ maxLen) : DR .str (.lit (.string s.data.toList)) [.c (.string s)]
  | none (e : Sh) : DR (.sl e) .nil [.sl []]
  | sl (e : Sh) (ds sp : List (DataW H)) (es : List (List PV)) (hn : ds.length = es.length) (hm : es.length ≤ maxLen) (h : ∀ (i : Nat) d x, ds[i]? = some d → es[i]? = some x → DR e d x) : DR (.sl e) (.slice ds sp) [.sl es]
  | st (fs : List Sh) (ds : List (DataW H)) (cs : List PV) (h : DRAll fs ds cs) : DR (.st fs) (.agg ds) cs
inductive DRAll {H : Type} : List Sh → List (DataW H) → List PV → Prop
  | nil : DRAll [] [] []
  | cons {f : Sh} {fs : List Sh} {d : DataW H} {ds : List (DataW H)} {a b : List PV} (h : DR f d a) (h' : DRAll fs ds b) : DRAll (f :: fs) (d :: ds) (a ++ b)
end
def shFs (P : Program) (rec : TypeId → Option Sh) : List Field → Nat → Option (List Sh)
  | [], _ => some []
  | f :: fs, n => match rec f.type with
    | some s => cond (decide (f.offset = n) && decide (s.cells = P.cellsOf f.type)) (match shFs P rec fs (n + s.cells) with
      | some r => some (s :: r)
      | none => none) none
    | none => none
def shOf (P : Program) : Nat → TypeId → Option Sh
  | 0, _ => none
  | d + 1, t => match P.underlying t with
    | some .bool => some .bool
    | some (.int k) => some (.int k)
    | some .string => some .str
    | some (.slice e) => match shOf P d e with
      | some s => cond (decide (s.cells = P.cellsOf e) && decide (0 < s.cells)) (some (.sl s)) none
      | none => none
    | some (.struct fs) => match shFs P (shOf P d) fs.toList 0 with
      | some l => cond (decide (Sh.cellsAll l = P.cellsOf t)) (some (.st l)) none
      | none => none
    | _ => none

theorem mapM_spec {α β : Type} {f : α → Option β} : ∀ {l : List α} {l' : List β}, l.mapM f = some l' → l'.length = l.length ∧ ∀ (i : Nat) (y : β), l'[i]? = some y → ∃ x, l[i]? = some x ∧ f x = some y
  | [], l', h => by
    simp only [List.mapM_nil, Option.pure_def, Option.some.injEq] at h
    subst h
    exact ⟨rfl, fun i y hy => by simp at hy⟩
  | x :: l, l', h => by
    simp only [List.mapM_cons, Option.bind_eq_bind, Option.bind_eq_some_iff, Option.pure_def, Option.some.injEq] at h
    obtain ⟨y, hy, ys, hys, rfl⟩ := h
    obtain ⟨h1, h2⟩ := mapM_spec hys
    refine ⟨by simp [h1], fun i z hz => ?_⟩
    cases i with
    | zero => cases hz; exact ⟨x, rfl, hy⟩
    | succ i => exact h2 i z (by simpa using hz)
theorem list_pick {α β : Type} {R : Nat → α → β → Prop} : ∀ (l : List α), (∀ (i : Nat) x, l[i]? = some x → ∃ y, R i x y) → ∃ l' : List β, l'.length = l.length ∧ ∀ (i : Nat) x y, l[i]? = some x → l'[i]? = some y → R i x y := by
  intro l
  induction l generalizing R with
  | nil => exact fun _ => ⟨[], rfl, fun i x y h => by simp at h⟩
  | cons x l ih =>
    intro h
    obtain ⟨y, hy⟩ := h 0 x rfl
    obtain ⟨ys, h1, h2⟩ := ih (R := fun i => R (i + 1)) fun i z hz => h (i + 1) z (by simpa using hz)
    refine ⟨y :: ys, by simp [h1], fun i a b ha hb => ?_⟩
    cases i with
    | zero => cases ha; cases hb; exact hy
    | succ i => exact h2 i a b (by simpa using ha) (by simpa using hb)
theorem add_cell (b o n : Nat) : (cellAt b o).add n = cellAt b (o + n) := by
  unfold Addr.add
  split
  · rename_i h
    subst h
    rfl
  · rfl
theorem cell_spot {w : World} {a : Addr} {v : Value} (h : w.cell? a = some v) : a = cellAt a.block a.off ∧ a.block < w.heap.size := by
  unfold World.cell? at h
  split at h
  · rename_i c t m hh
    split at h
    · cases h
    · rename_i hs
      refine ⟨?_, (Array.getElem?_eq_some_iff.1 hh).1⟩
      obtain ⟨b, o, s⟩ := a
      cases s with
      | none => rfl
      | some x => simp at hs
  · cases h
section
variable {H : Type} {enc : TypeId × Value → H} {P : Program} {w : World} {sp : Nat → Bool} {held : Bool} {ok : Nat → Prop}
theorem trod_fs (hok : ∀ b, b < w.heap.size → ok b) {fuel : Nat} {rec : TypeId → Option Sh}
    (ih : ∀ {t : TypeId} {cs : List Value} {x : DataW H × List MemPlace} {sh : Sh}, rec t = some sh → DataW.trod enc P w 0 sp held fuel t cs = some x → ∃ pvs, DR sh x.1 pvs ∧ pvs.length = cs.length ∧ pvs.length = sh.cells ∧ ∀ (j : Nat) y v, pvs[j]? = some y → cs[j]? = some v → PR ok w y v) :
    ∀ (fs : List Field) (n : Nat) (l : List Sh) (cs : List Value) (xs : List (DataW H × List MemPlace)), shFs P rec fs n = some l → (fs.mapM fun f => DataW.trod enc P w 0 sp held fuel f.type ((cs.drop f.offset).take (P.cellsOf f.type))) = some xs →
      ∃ pvs, DRAll l (xs.map (·.1)) pvs ∧ pvs.length = Sh.cellsAll l ∧ ∀ (j : Nat) y v, pvs[j]? = some y → cs[n + j]? = some v → PR ok w y v
  | [], n, l, cs, xs, h1, h2 => by
    cases h1
    simp only [List.mapM_nil, Option.pure_def, Option.some.injEq] at h2
    subst h2
    exact ⟨[], .nil, rfl, fun j y v hj => by simp at hj⟩
  | f :: fs, n, l, cs, xs, h1, h2 => by
    simp only [shFs] at h1
    split at h1
    · rename_i s hs
      cases hc : (decide (f.offset = n) && decide (s.cells = P.cellsOf f.type)) with
      | false => rw [hc] at h1; cases h1
      | true =>
        rw [hc, cond_true] at h1
        split at h1
        · rename_i r hr
          cases h1
          simp only [Bool.and_eq_true, decide_eq_true_eq] at hc
          simp only [List.mapM_cons, Option.bind_eq_bind, Option.bind_eq_some_iff, Option.pure_def, Option.some.injEq] at h2
          obtain ⟨x, hx, ys, hys, rfl⟩ := h2
          obtain ⟨a, d1, l1, l2, p1⟩ := ih hs hx
          obtain ⟨b, d2, l3, p2⟩ := trod_fs hok ih fs _ r cs ys hr hys
          refine ⟨a ++ b, .cons d1 d2, by simp [l2, l3, Sh.cellsAll], fun j y v hj hv => ?_⟩
          rw [List.getElem?_append] at hj
          split at hj
          · rename_i hlt
            refine p1 j y v hj ?_
            rw [hc.1, List.getElem?_take, if_pos (by rw [← hc.2, ← l2]; exact hlt), List.getElem?_drop]
            exact hv
          · rename_i hlt
            refine p2 (j - a.length) y v hj ?_
            rw [← hv]
            congr 1
            omega
        · cases h1
    · cases h1
theorem trod_dr (hok : ∀ b, b < w.heap.size → ok b) : ∀ (n fuel : Nat) {t : TypeId} {cs : List Value} {x : DataW H × List MemPlace} {sh : Sh}, shOf P n t = some sh → DataW.trod enc P w 0 sp held fuel t cs = some x →
    ∃ pvs, DR sh x.1 pvs ∧ pvs.length = cs.length ∧ pvs.length = sh.cells ∧ ∀ (j : Nat) y v, pvs[j]? = some y → cs[j]? = some v → PR ok w y v
  | 0, _, _, _, _, _, h, _ => by cases h
  | n + 1, 0, _, _, _, _, _, h => by simp [DataW.trod] at h
  | n + 1, fuel + 1, t, cs, x, sh, h, h2 => by
    have one : ∀ {y : PV} {v : Value}, PR ok w y v → ∀ (j : Nat) y' v', [y][j]? = some y' → [v][j]? = some v' → PR ok w y' v' := by
      intro y v hp j y' v' h1 h2
      cases j with
      | zero => cases h1; cases h2; exact hp
      | succ j => simp at h1
    simp only [shOf] at h
    unfold DataW.trod at h2
    split at h
    · rename_i hu
      cases h
      rw [hu] at h2
      split at h2 <;> rename_i hu' <;> first | (cases hu'; done) | (cases h2; done) | skip
      cases h2
      exact ⟨_, .bool _, rfl, rfl, one (.c _ rfl)⟩
    · rename_i k hu
      cases h
      rw [hu] at h2
      split at h2 <;> rename_i hu' <;> first | (cases hu'; done) | (cases h2; done) | skip
      cases hu'
      split at h2
      · rename_i hk
        obtain ⟨rfl, hwf⟩ := hk
        cases h2
        exact ⟨_, .int _ _ hwf, rfl, rfl, one (.c _ rfl)⟩
      · cases h2
    · rename_i hu
      cases h
      rw [hu] at h2
      split at h2 <;> rename_i hu' <;> first | (cases hu'; done) | (cases h2; done) | skip
      split at h2
      · rename_i hs
        cases h2
        exact ⟨_, .str _ hs, rfl, rfl, one (.c _ rfl)⟩
      · cases h2
    · rename_i e hu
      rw [hu] at h2
      split at h
      · rename_i s hs
        cases hc : (decide (s.cells = P.cellsOf e) && decide (0 < s.cells)) with
        | false => rw [hc] at h; cases h
        | true =>
          rw [hc, cond_true] at h
          cases h
          simp only [Bool.and_eq_true, decide_eq_true_eq] at hc
          split at h2 <;> rename_i hu' <;> first | (cases hu'; done) | (cases h2; done) | skip
          · cases h2
            refine ⟨_, .none _, rfl, rfl, one (.sl [] none 0 0 0 (fun _ _ => undef) rfl (Nat.le_refl _) (fun h => absurd h (by decide)) fun i e j x hi => by simp at hi)⟩
          · rename_i a len cap
            cases hu'
            dsimp only at h2
            split at h2
            · rename_i hb
              simp only [Option.bind_eq_some_iff, Option.map_eq_some_iff] at h2
              obtain ⟨elems, hel, rest, _, rfl⟩ := h2
              obtain ⟨hl, hg⟩ := mapM_spec hel
              rw [List.length_range] at hl
              -- each element's cells
              have raw : ∀ (i : Nat) y, elems[i]? = some y → ∃ (cs' : List Value) (pvs : List PV), DR s y.1 pvs ∧ cs'.length = s.cells ∧ pvs.length = s.cells ∧ (∀ (j : Nat) z v, pvs[j]? = some z → cs'[j]? = some v → PR ok w z v) ∧ ∀ (j : Nat) v, cs'[j]? = some v → w.cell? ((a.add (i * P.cellsOf e)).add j) = some v := by
                intro i y hy
                obtain ⟨i', hi', hx⟩ := hg i y hy
                have hii : i' = i := by
                  rw [List.getElem?_range] at hi'
                  · exact (Option.some.inj hi').symm
                  · rw [← hl]; exact (List.getElem?_eq_some_iff.1 hy).1
                subst hii
                simp only [Option.bind_eq_some_iff] at hx
                obtain ⟨cs', hcs, hx⟩ := hx
                obtain ⟨pvs, d1, l1, l2, p1⟩ := trod_dr hok n fuel hs hx
                unfold World.cells? at hcs
                split at hcs
                · obtain ⟨hl', hg'⟩ := mapM_spec hcs
                  rw [List.length_range] at hl'
                  refine ⟨cs', pvs, d1, by rw [← l1, l2], l2, p1, fun j v hv => ?_⟩
                  obtain ⟨j', hj', hvv⟩ := hg' j v hv
                  have : j' = j := by
                    rw [List.getElem?_range] at hj'
                    · exact (Option.some.inj hj').symm
                    · rw [← hl']; exact (List.getElem?_eq_some_iff.1 hv).1
                  subst this
                  exact hvv
                · cases hcs
              have ha : 0 < elems.length → a = cellAt a.block a.off ∧ ok a.block := by
                intro h0
                obtain ⟨cs', _, _, hlc, _, _, hcell⟩ := raw 0 _ (List.getElem?_eq_getElem h0)
                have h1 := hcell 0 _ (List.getElem?_eq_getElem (by rw [hlc]; exact hc.2))
                have h2 : (a.add (0 * P.cellsOf e)).add 0 = a := by
                  simp [Addr.add]
                rw [h2] at h1
                obtain ⟨h3, h4⟩ := cell_spot h1
                exact ⟨h3, hok _ h4⟩
              have hels : ∀ (i : Nat) y, elems[i]? = some y → ∃ es : List PV, DR s y.1 es ∧ es.length = s.cells ∧ ∀ (j : Nat) z, es[j]? = some z → ∃ v, w.cell? (cellAt a.block (a.off + (i * s.cells + j))) = some v ∧ PR ok w z v := by
                intro i y hy
                obtain ⟨cs', pvs, d1, l1, l2, p1, hcell⟩ := raw i y hy
                refine ⟨pvs, d1, l2, fun j z hz => ?_⟩
                have hj : j < cs'.length := by rw [l1, ← l2]; exact (List.getElem?_eq_some_iff.1 hz).1
                refine ⟨cs'[j], ?_, p1 j z _ hz (List.getElem?_eq_getElem hj)⟩
                have h0 : 0 < elems.length := by have := (List.getElem?_eq_some_iff.1 hy).1; omega
                have := hcell j _ (List.getElem?_eq_getElem hj)
                rw [(ha h0).1, add_cell, add_cell] at this
                rw [← this, hc.1, Nat.add_assoc]
              obtain ⟨ess, hle, hes⟩ := list_pick elems hels
              refine ⟨[.sl ess], ?_, rfl, rfl, one ?_⟩
              · refine .sl _ _ _ _ (by simp [hle]) (by rw [hle, hl]; omega) fun i d x hd hx => ?_
                simp only [List.getElem?_map, Option.map_eq_some_iff] at hd
                obtain ⟨y, hy, rfl⟩ := hd
                exact (hes i y x hy hx).1
              · refine .sl ess (some a) len cap s.cells (fun i j => (w.cell? (cellAt a.block (a.off + (i * s.cells + j)))).getD undef) (by rw [hle, hl]) hb.2.1 (fun h0 => ?_) fun i es j z hi hj => ?_
                · have h0' : 0 < elems.length := by omega
                  refine ⟨a.block, a.off, by rw [← (ha h0').1], (ha h0').2, fun i es hi => ?_⟩
                  have hlt : i < elems.length := by rw [← hle]; exact (List.getElem?_eq_some_iff.1 hi).1
                  obtain ⟨_, g2, g3⟩ := hes i _ es (List.getElem?_eq_getElem hlt) hi
                  refine ⟨g2, fun j z hj => ?_⟩
                  obtain ⟨v, hv, _⟩ := g3 j z hj
                  rw [hv]
                  rfl
                · have hlt : i < elems.length := by rw [← hle]; exact (List.getElem?_eq_some_iff.1 hi).1
                  obtain ⟨_, _, g3⟩ := hes i _ es (List.getElem?_eq_getElem hlt) hi
                  obtain ⟨v, hv, hp⟩ := g3 j z hj
                  rw [hv]
                  exact hp
            · cases h2
      · cases h
    · rename_i fs hu
      rw [hu] at h2
      split at h
      · rename_i l hl
        cases hcc : decide (Sh.cellsAll l = P.cellsOf t) with
        | false => rw [hcc] at h; cases h
        | true =>
          rw [hcc, cond_true] at h
          cases h
          split at h2 <;> rename_i hu' <;> first | (cases hu'; done) | (cases h2; done) | skip
          cases hu'
          split at h2
          · rename_i hcl
            simp only [Option.map_eq_some_iff] at h2
            obtain ⟨xs, hxs, rfl⟩ := h2
            obtain ⟨pvs, d1, l1, p1⟩ := trod_fs hok (fun {t cs x sh} h1 h2 => trod_dr hok n fuel h1 h2) _ 0 l _ xs hl hxs
            refine ⟨pvs, .st _ _ _ d1, ?_, l1, fun j y v hj hv => p1 j y v hj (by rw [Nat.zero_add]; exact hv)⟩
            rw [l1, hcl, of_decide_eq_true hcc]
          · cases h2
          · exact (‹∀ fs_1 : Array Field, some (TypeDesc.struct fs) = some (TypeDesc.struct fs_1) → False› fs rfl).elim
      · cases h
    · cases h
end
end Go.Ab

/- From a run of the abstract machine to what a row asks. -/
namespace Go.Ab
open Go Go.RowKit

def Sh.te (s : Sh) (pvs : List PV) : TE := match s with
  | .st _ => .a (pvs.map .p)
  | _ => match pvs with
    | x :: _ => .c (.p x)
    | [] => .c (.p (.sl []))
/-- What the arguments are. -/
inductive ArgsD {H : Type} : List Sh → List (DataW H) → List TE → Prop
  | nil : ArgsD [] [] []
  | cons {sh : Sh} {shs : List Sh} {d : DataW H} {ds : List (DataW H)} {pvs : List PV} {tes : List TE} (h : DR sh d pvs) (h' : ArgsD shs ds tes) : ArgsD (sh :: shs) (d :: ds) (sh.te pvs :: tes)
section
variable {H : Type} {enc : TypeId × Value → H} {P : Program} {W W' : World}
theorem ok_bare {b : Nat} (h : b < W.heap.size) : (⟨[], []⟩ : Gh).ok W b := ⟨h, bare_own b, by simp⟩
theorem arg_r {n : Nat} {t : TypeId} {sh : Sh} {v : Value} {d : DataW H} {ps : List MemPlace} {base : Nat} (hs : shOf P n t = some sh) (h : DataW.Trod enc P W 0 (fun _ => true) true t v d ps) (hv : Value.okWide P W .any base t v) :
    ∃ pvs, DR sh d pvs ∧ TER ⟨[], []⟩ [] W (sh.te pvs) v := by
  obtain ⟨fuel, hf⟩ := h
  obtain ⟨pvs, h1, h2, h3, h4⟩ := trod_dr (ok := (⟨[], []⟩ : Gh).ok W) (fun b hb => ok_bare hb) n fuel hs hf
  refine ⟨pvs, h1, ?_⟩
  have one : ∀ (s : Sh), (∀ l, s ≠ .st l) → sh = s → v.cells = #[v] → TER ⟨[], []⟩ [] W (sh.te pvs) v := by
    rintro s hns rfl hc
    rw [hc] at h2 h4
    obtain ⟨x, rfl⟩ : ∃ x, pvs = [x] := by
      match pvs, h2 with
      | [x], _ => exact ⟨x, rfl⟩
    have : sh.te [x] = .c (.p x) := by
      cases sh <;> first | rfl | exact absurd rfl (hns _)
    rw [this]
    exact .c (.p (h4 0 x v rfl rfl))
  cases n with
  | zero => cases hs
  | succ n =>
  simp only [shOf] at hs
  unfold Value.okWide at hv
  split at hs
  · rename_i hu
    cases hs
    refine one _ (fun l h => by cases h) rfl ?_
    simp only [hu, Cell.okWide, Cell.ok] at hv
    cases v <;> first | rfl | exact hv.elim
  · rename_i k hu
    cases hs
    refine one _ (fun l h => by cases h) rfl ?_
    simp only [hu, Cell.okWide, Cell.ok] at hv
    cases v <;> first | rfl | exact hv.elim
  · rename_i hu
    cases hs
    refine one _ (fun l h => by cases h) rfl ?_
    simp only [hu, Cell.okWide, Cell.ok] at hv
    cases v <;> first | rfl | exact hv.elim
  · rename_i e hu
    split at hs
    · rename_i s hs'
      rcases hc : (decide (s.cells = P.cellsOf e) && decide (0 < s.cells)) with _ | _
      · rw [hc] at hs; cases hs
      · rw [hc, cond_true] at hs
        cases hs
        refine one _ (fun l h => by cases h) rfl ?_
        simp only [hu, Cell.okWide, Cell.ok] at hv
        cases v <;> first | rfl | exact hv.elim
    · cases hs
  · rename_i fs hu
    split at hs
    · rename_i l hl
      rcases hc : decide (Sh.cellsAll l = P.cellsOf t) with _ | _
      · rw [hc] at hs; cases hs
      · rw [hc, cond_true] at hs
        cases hs
        simp only [hu] at hv
        obtain ⟨cs, rfl, _, _⟩ := hv
        refine .a (by simpa [Value.cells] using h2) fun i x u hi hu => ?_
        simp only [List.getElem?_map, Option.map_eq_some_iff] at hi
        obtain ⟨y, hy, rfl⟩ := hi
        exact .p (h4 i y u hy (by simpa [Value.cells] using hu))
    · cases hs
  · cases hs
theorem args_l {n base : Nat} : ∀ {ts : List TypeId} {shs : List Sh} {vs : List Value} {ds : List (DataW H)} {ps : List MemPlace}, mapO (shOf P n) ts = some shs → DataW.TrodAll enc P W 0 (fun _ => true) true ts vs ds ps →
    (∀ (j : Nat) t v, ts[j]? = some t → vs[j]? = some v → Value.okWide P W .any base t v) → ∃ tes, ArgsD shs ds tes ∧ tes.length = vs.length ∧ ∀ (i : Nat) x v, tes[i]? = some x → vs[i]? = some v → TER ⟨[], []⟩ [] W x v
  | [], shs, [], [], _, h, _, _ => by
    cases h
    exact ⟨[], .nil, rfl, fun i x v hi => by simp at hi⟩
  | t :: ts, shs, v :: vs, d :: ds, ps, h, ⟨p, q, h1, h2, _⟩, hv => by
    simp only [mapO] at h
    split at h
    · rename_i sh hsh
      split at h
      · rename_i r hr
        cases h
        obtain ⟨pvs, a1, a2⟩ := arg_r hsh h1 (hv 0 t v rfl rfl)
        obtain ⟨tes, b1, b2, b3⟩ := args_l hr h2 fun j t v ht hv' => hv (j + 1) t v (by simpa using ht) (by simpa using hv')
        refine ⟨sh.te pvs :: tes, .cons a1 b1, by simp [b2], fun i x u hi hu => ?_⟩
        cases i with
        | zero => cases hi; cases hu; exact a2
        | succ i => exact b3 i x u (by simpa using hi) (by simpa using hu)
      · cases h
    · cases h
/-- What a call is handed. -/
theorem args_h {n base : Nat} {ts : Array TypeId} {shs : List Sh} {args : Array Value} {ds : List (DataW H)} {ps : List MemPlace} (hs : mapO (shOf P n) ts.toList = some shs) (h : DataW.TrodAll enc P W 0 (fun _ => true) true ts.toList args.toList ds ps)
    (hv : ∀ (j : Nat) t v, ts[j]? = some t → args[j]? = some v → Value.okWide P W .any base t v) : ∃ tes, ArgsD shs ds tes ∧ ArgsR ⟨[], []⟩ [] W tes args := by
  obtain ⟨tes, h1, h2, h3⟩ := args_l hs h (base := base) fun j t v ht hv' => hv j t v (by simpa using ht) (by simpa using hv')
  exact ⟨tes, h1, by simpa using h2, fun i x v hi hv' => h3 i x v hi (by simpa using hv')⟩
theorem trodAll_below (hl : laidOutB P = true) (hb : Below W.heap.size W W') : ∀ {ts : List TypeId} {vs : List Value} {ds : List (DataW H)} {ps : List MemPlace}, (∀ t ∈ ts, P.readableRec t = true ∧ t < P.types.size) → DataW.TrodAll enc P W 0 (fun _ => true) true ts vs ds ps → (∀ x ∈ ps, x.block < W.heap.size) →
    DataW.TrodAll enc P W' 0 (fun b => decide (b < W.heap.size)) true ts vs ds ps
  | [], [], [], _, _, h, _ => h
  | t :: ts, v :: vs, d :: ds, ps, hr, ⟨p, q, h1, h2, e⟩, hlt => by
    subst e
    exact ⟨p, q, Below.trod hl (hr t (by simp)).1 (hr t (by simp)).2 h1 hb (fun x hx => hlt x (by simp [hx])), trodAll_below hl hb (fun t ht => hr t (by simp [ht])) h2 (fun x hx => hlt x (by simp [hx])), rfl⟩
/-- What a law's row asks: it answers true, and nothing that was there has turned. -/
theorem law_post {f : Func} {s : ChangeSpec} {handsOn fresh : Bool} (hl : laidOutB P = true) (hvars : s.vars = []) {tb : TypeId} (hres : f.resultTypes = #[tb]) (hu : P.underlying tb = some .bool) (hpar : ∀ t ∈ f.params.toList, P.readableRec t = true ∧ t < P.types.size)
    {args : Array Value} {ds gs : List (DataW H)} {before : List MemPlace} (hW : DataW.Whole enc P f.params.toList s.vars false W args.toList ds gs before) (hfn : gs = [] → s.fn H ds = { results := [.lit (.bool true)], args := ds }) (hb : Below W.heap.size W W') :
    s.post enc P f false fresh handsOn false W args (.bool true) W' := by
  have hlt : ∀ p ∈ before, p.block < W.heap.size := fun p hp => hW.lt p hp
  have hW' := hW
  obtain ⟨p, q, h1, h2, rfl, _, _⟩ := hW'
  have hgs : gs = [] ∧ q = [] := by
    rw [hvars] at h2
    cases gs with
    | nil => exact ⟨rfl, h2⟩
    | cons g gs => exact h2.elim
  obtain ⟨rfl, rfl⟩ := hgs
  have hf := hfn rfl
  have hk := hb.frame (fun x => x ∈ p ++ [] ∧ (x ∈ ([] : List MemPlace) ∨ x ∈ p ∨ x ∈ ([] : List MemPlace)))
  refine ⟨ds, [], p ++ [], [], p, [], hW, ?_, ?_, ?_, hk, fun h => by cases h⟩
  · simp only [List.append_nil, hf, hres]
    exact ⟨[], [], ⟨1, by simp [DataW.trod, hu, Value.cells]⟩, rfl, rfl⟩
  · simp only [List.append_nil, hf]
    exact trodAll_below hl hb hpar h1 (fun x hx => hlt x (by simp [hx]))
  · simp only [List.append_nil, hf, hvars]
    rfl
end
section
variable {E : Env}
theorem ev_below {W W' : World} {G' : Gh} {m' : Mem} (h : Ev ⟨[], []⟩ [] W G' m' W') : Below W.heap.size W W' :=
  ⟨h.os, h.tape, h.output, h.size, fun k hk => h.keep k hk (bare_own k)⟩
/-- A law's text answers true: so does the call. -/
theorem law_calls (hF : Fit E.P) (hext : ∀ g f args m out, E.ext g = some f → f args m = some out → CallsOk E.P g args m out) {g : FuncId} {args : List TE} {m' : Mem} (h : ex E (entry E.P g args []) = some (.ret (mkB true), m')) {W : World} {vs : Array Value} (ha : ArgsR ⟨[], []⟩ [] W args vs) :
    Calls E.P g vs W fun e W' => e = .returned (.bool true) ∧ Below W.heap.size W W' := by
  refine ((ex_calls hF hext h).run ⟨[], []⟩ W vs (rel_bare (by simp)) ha).mono fun e W' hp => ?_
  cases e with
  | returned u =>
    obtain ⟨tv, G', h1, h2, _, h4⟩ := hp
    cases h1
    cases h4 with
    | e h4 => cases h4 with
      | c h4 => cases h4 with
        | p h4 => cases h4 with
          | c => exact ⟨rfl, ev_below h2⟩
  | panicked ch =>
    obtain ⟨pv, G', h1, _⟩ := hp
    cases h1
  | outgrown => exact hp.elim
end
end Go.Ab

/- Reading the printed meanings: what operations come to on known values; calls by what they answer. -/
namespace Go.Ab
open Go

/-! ### Reading -/
@[simp] theorem optA_bind_some {α : Type} {f g : Cfg → Option Out} (y : α) (k : α → Option Out) : (optA f g).bind (some y) k = k y := rfl
@[simp] theorem optA_bind_none {α : Type} {f g : Cfg → Option Out} (k : α → Option Out) : (optA f g).bind (none : Option α) k = none := rfl
@[simp] theorem asI_I (k : IntKind) (n : Int) : asI (mkI k n) = some n := rfl
@[simp] theorem asK_I (k : IntKind) (n : Int) : asK k (mkI k n) = some n := by simp [asK]
@[simp] theorem asB_B (b : Bool) : asB (mkB b) = some b := rfl
@[simp] theorem asS_S (s : ByteArray) : asS (mkS s) = some s := rfl
@[simp] theorem asE_E (x : TE) : asE (.e x) = some x := rfl
@[simp] theorem asC_C (x : CV) : asC (.e (.c x)) = some x := rfl
@[simp] theorem aext_0 (x : TE) (xs : List TE) : aext (.t (x :: xs)) 0 = some x := rfl
@[simp] theorem aext_1 (x y : TE) (xs : List TE) : aext (.t (x :: y :: xs)) 1 = some y := rfl
@[simp] theorem aext_2 (x y z : TE) (xs : List TE) : aext (.t (x :: y :: z :: xs)) 2 = some z := rfl
@[simp] theorem cells_c (x : CV) : TE.cells (.c x) = [x] := rfl
@[simp] theorem cells_a (x : List CV) : TE.cells (.a x) = x := rfl
@[simp] theorem idOf_p (x : PV) : idOf (.e (.c (.p x))) = 0 := rfl
@[simp] theorem idOf_a (x : List CV) : idOf (.e (.a x)) = 0 := rfl
@[simp] theorem idOf_ip (x : List PV) (o : Nat) : idOf (.e (.c (.ip x o))) = 0 := rfl
@[simp] theorem idOf_tsl (x : List (List PV)) : idOf (.e (.c (.tsl x))) = 0 := rfl
@[simp] theorem idOf_ref (a b c d : Nat) : idOf (.e (.c (.ref a b c d))) = a + 1 := rfl
@[simp] theorem idOf_oref (a b c d : Nat) : idOf (.e (.c (.oref a b c d))) = a + 1 := rfl
@[simp] theorem isPC_sl (es : List (List PV)) : isPC (.e (.c (.p (.sl es)))) = false := rfl
@[simp] theorem isPC_tsl (es : List (List PV)) : isPC (.e (.c (.tsl es))) = false := rfl
@[simp] theorem isPC_oref (a b c d : Nat) : isPC (.e (.c (.oref a b c d))) = false := rfl
@[simp] theorem isPC_toref (a b c d : Nat) : isPC (.e (.c (.toref a b c d))) = false := rfl
@[simp] theorem alen_sl (es : List (List PV)) : alen (.e (.c (.p (.sl es)))) = some (es.length : Int) := rfl
@[simp] theorem alen_tsl (es : List (List PV)) : alen (.e (.c (.tsl es))) = some (es.length : Int) := rfl
@[simp] theorem alen_oref (a b c d : Nat) : alen (.e (.c (.oref a b c d))) = some (d : Int) := rfl
@[simp] theorem alen_toref (a b c d : Nat) : alen (.e (.c (.toref a b c d))) = some (d : Int) := rfl
@[simp] theorem alen_S (s : ByteArray) : alen (mkS s) = some (s.size : Int) := rfl
@[simp] theorem afield_ref (off a b c d : Nat) : afield off (.e (.c (.ref a b c d))) = some (.ref a b c (d + off)) := rfl
@[simp] theorem afield_ip (off d : Nat) (x : List PV) : afield off (.e (.c (.ip x d))) = some (.ip x (d + off)) := rfl
@[simp] theorem anil_ref (a b c d : Nat) : anil (.e (.c (.ref a b c d))) = some (.ref a b c d) := rfl
@[simp] theorem anil_ip (d : Nat) (x : List PV) : anil (.e (.c (.ip x d))) = some (.ip x d) := rfl
@[simp] theorem anil_clo (f : FuncId) (x y : List CV) : anil (.e (.c (.clo f x y))) = some (.clo f x y) := rfl
@[simp] theorem pick_false (n : Nat) (x : CV) (l : List CV) : pick n false (x :: l) = some (.c x) := rfl
@[simp] theorem aload_ip (n off : Nat) (agg : Bool) (cs : List PV) (m : Mem) : aload n agg (.e (.c (.ip cs off))) m = pick n agg ((cs.drop off).map .p) := rfl
theorem aload_ref (n id ver idx off : Nat) (agg : Bool) (m : Mem) : aload n agg (.e (.c (.ref id ver idx off))) m = match m.at? id ver with
  | some o => match o.es[idx]? with
    | some cs => pick n agg (cs.drop off)
    | none => none
  | none => none := rfl

@[simp] theorem cond_dec {α : Type} (p : Prop) [Decidable p] (a b : α) : cond (decide p) a b = if p then a else b := by
  by_cases h : p <;> simp [h]
@[simp] theorem cond_ndec {α : Type} (p : Prop) [Decidable p] (a b : α) : cond (!decide p) a b = if p then b else a := by
  by_cases h : p <;> simp [h]

/-! ### Comparing -/
section
variable (e : EqK) (k : IntKind) (a b : Int)
@[simp] theorem cmp_eql : acmp e .eql (mkI k a) (mkI k b) = some (decide (a = b)) := by
  simp [acmp, aeq, cellEq, scalarEq, Bool.beq_eq_decide_eq]
@[simp] theorem cmp_neq : acmp e .neq (mkI k a) (mkI k b) = some (!decide (a = b)) := by
  simp [acmp, aeq, cellEq, scalarEq, Bool.beq_eq_decide_eq]
@[simp] theorem cmp_lss : acmp e .lss (mkI k a) (mkI k b) = some (decide (a < b)) := by simp [acmp]
@[simp] theorem cmp_leq : acmp e .leq (mkI k a) (mkI k b) = some (decide (a ≤ b)) := by simp [acmp]
@[simp] theorem cmp_gtr : acmp e .gtr (mkI k a) (mkI k b) = some (decide (b < a)) := by simp [acmp]
@[simp] theorem cmp_geq : acmp e .geq (mkI k a) (mkI k b) = some (decide (b ≤ a)) := by simp [acmp]
end
section
variable (e : EqK) (s t : ByteArray)
@[simp] theorem cmpS_eql : acmp e .eql (mkS s) (mkS t) = some (decide (s = t)) := by simp [acmp, aeq, cellEq, scalarEq]
@[simp] theorem cmpS_neq : acmp e .neq (mkS s) (mkS t) = some (!decide (s = t)) := by simp [acmp, aeq, cellEq, scalarEq]
@[simp] theorem cmpS_lss : acmp e .lss (mkS s) (mkS t) = some (Op.bytesLess s.data.toList t.data.toList) := by simp [acmp]
@[simp] theorem cmpS_gtr : acmp e .gtr (mkS s) (mkS t) = some (!(Op.bytesLess s.data.toList t.data.toList || decide (s = t))) := by simp [acmp]
end
@[simp] theorem cmpB_eql (a b : Bool) : acmp .b .eql (mkB a) (mkB b) = some (a == b) := by simp [acmp, aeq, cellEq, scalarEq, EqK.isB]
@[simp] theorem cmpB_neq (a b : Bool) : acmp .b .neq (mkB a) (mkB b) = some (!(a == b)) := by simp [acmp, aeq, cellEq, scalarEq, EqK.isB]
@[simp] theorem cmpP_ref (a b c d : Nat) : acmp .p .eql (.e (.c (.ref a b c d))) (.e (.c (.p (.c (.pointer none))))) = some false := by simp [acmp, aeq, cellEq, EqK.isP]
@[simp] theorem cmpP_nref (a b c d : Nat) : acmp .p .neq (.e (.c (.ref a b c d))) (.e (.c (.p (.c (.pointer none))))) = some true := by simp [acmp, aeq, cellEq, EqK.isP]
@[simp] theorem cmpP_nil : acmp .p .eql (.e (.c (.p (.c (.pointer none))))) (.e (.c (.p (.c (.pointer none))))) = some true := by simp [acmp, aeq, cellEq, scalarEq, EqK.isP]
@[simp] theorem cmpP_nnil : acmp .p .neq (.e (.c (.p (.c (.pointer none))))) (.e (.c (.p (.c (.pointer none))))) = some false := by simp [acmp, aeq, cellEq, scalarEq, EqK.isP]

/-! ### Reckoning -/
section
variable (k : IntKind) (a b : Int)
@[simp] theorem ar_add : aarith .add k (mkI k a) (mkI k b) = some (k.wrap (a + b)) := by simp [aarith]
@[simp] theorem ar_sub : aarith .sub k (mkI k a) (mkI k b) = some (k.wrap (a - b)) := by simp [aarith]
@[simp] theorem ar_mul : aarith .mul k (mkI k a) (mkI k b) = some (k.wrap (a * b)) := by simp [aarith]
@[simp] theorem ar_quo : aarith .quo k (mkI k a) (mkI k b) = if b = 0 then none else some (k.wrap (a.tdiv b)) := by
  simp only [aarith, decide_true, cond_true]
  by_cases h : b = 0
  · simp [h]
  · simp [h, beq_false_of_ne h]
@[simp] theorem ar_rem : aarith .rem k (mkI k a) (mkI k b) = if b = 0 then none else some (a.tmod b) := by
  simp only [aarith, decide_true, cond_true]
  by_cases h : b = 0
  · simp [h]
  · simp [h, beq_false_of_ne h]
@[simp] theorem ar_and : aarith .and k (mkI k a) (mkI k b) = some (k.wrap ((BitVec.ofInt k.bits a &&& BitVec.ofInt k.bits b).toNat : Int)) := by simp [aarith, abits]
@[simp] theorem ar_or : aarith .or k (mkI k a) (mkI k b) = some (k.wrap ((BitVec.ofInt k.bits a ||| BitVec.ofInt k.bits b).toNat : Int)) := by simp [aarith, abits]
@[simp] theorem ar_xor : aarith .xor k (mkI k a) (mkI k b) = some (k.wrap ((BitVec.ofInt k.bits a ^^^ BitVec.ofInt k.bits b).toNat : Int)) := by simp [aarith, abits]
variable (j : IntKind)
@[simp] theorem ar_shl (h : 0 ≤ b) : aarith .shl k (mkI k a) (mkI j b) = some (k.wrap (a * 2 ^ (min b.toNat k.bits))) := by simp [aarith, h]
@[simp] theorem ar_shr (h : 0 ≤ b) : aarith .shr k (mkI k a) (mkI j b) = some (a.fdiv (2 ^ (min b.toNat k.bits))) := by simp [aarith, h]
@[simp] theorem conv_I : aconvI k (mkI j a) = some (k.wrap a) := rfl
end
@[simp] theorem anot_B (b : Bool) : anot (mkB b) = some (!b) := rfl

/-- A number of a kind. -/
def Has (k : IntKind) (n : Int) : Prop := (Lit.int k n).wf = true
theorem has_i64 {n : Int} : Has .i64 n ↔ -9223372036854775808 ≤ n ∧ n ≤ 9223372036854775807 := by
  simp [Has, Lit.wf, IntKind.min, IntKind.max, IntKind.signed, IntKind.bits]
theorem has_u64 {n : Int} : Has .u64 n ↔ 0 ≤ n ∧ n ≤ 18446744073709551615 := by
  simp [Has, Lit.wf, IntKind.min, IntKind.max, IntKind.signed, IntKind.bits]
theorem has_u32 {n : Int} : Has .u32 n ↔ 0 ≤ n ∧ n ≤ 4294967295 := by
  simp [Has, Lit.wf, IntKind.min, IntKind.max, IntKind.signed, IntKind.bits]
theorem has_u8 {n : Int} : Has .u8 n ↔ 0 ≤ n ∧ n ≤ 255 := by
  simp [Has, Lit.wf, IntKind.min, IntKind.max, IntKind.signed, IntKind.bits]
theorem wrap_i64 (n : Int) : IntKind.i64.wrap n = (n + 9223372036854775808) % 18446744073709551616 - 9223372036854775808 := by
  simp [IntKind.wrap, IntKind.signed, IntKind.bits]
  split <;> omega
theorem wrap_u64 (n : Int) : IntKind.u64.wrap n = n % 18446744073709551616 := by
  simp [IntKind.wrap, IntKind.signed, IntKind.bits]
theorem wrap_u32 (n : Int) : IntKind.u32.wrap n = n % 4294967296 := by
  simp [IntKind.wrap, IntKind.signed, IntKind.bits]
theorem wrap_u8 (n : Int) : IntKind.u8.wrap n = n % 256 := by
  simp [IntKind.wrap, IntKind.signed, IntKind.bits]
theorem in_i64 {n : Int} (h : -9223372036854775808 ≤ n ∧ n ≤ 9223372036854775807) : IntKind.i64.wrap n = n := by rw [wrap_i64]; omega
theorem in_u64 {n : Int} (h : 0 ≤ n ∧ n ≤ 18446744073709551615) : IntKind.u64.wrap n = n := by rw [wrap_u64]; omega
theorem in_u32 {n : Int} (h : 0 ≤ n ∧ n ≤ 4294967295) : IntKind.u32.wrap n = n := by rw [wrap_u32]; omega
theorem in_u8 {n : Int} (h : 0 ≤ n ∧ n ≤ 255) : IntKind.u8.wrap n = n := by rw [wrap_u8]; omega

/-! ### Freezing -/
@[simp] theorem frzC_p (m : Mem) (lo n : Nat) (x : PV) : frzC m lo n (.p x) = some x := by cases n <;> rfl
@[simp] theorem frzC_tsl (m : Mem) (lo n : Nat) (es : List (List PV)) : frzC m lo n (.tsl es) = some (.sl es) := by cases n <;> rfl
@[simp] theorem mapO_nil {α β : Type} (f : α → Option β) : mapO f [] = some [] := rfl
@[simp] theorem mapO_cons {α β : Type} (f : α → Option β) (x : α) (l : List α) : mapO f (x :: l) = (f x).bind fun y => (mapO f l).bind fun ys => some (y :: ys) := by
  simp only [mapO]
  cases f x with
  | none => rfl
  | some y => cases mapO f l <;> rfl
theorem mapO_some {α β : Type} {f : α → Option β} {l : List α} {l' : List β} (h : l.map f = l'.map some) : mapO f l = some l' := by
  induction l generalizing l' with
  | nil => cases l' with
    | nil => rfl
    | cons => cases h
  | cons x l ih => cases l' with
    | nil => cases h
    | cons y l' =>
      simp only [List.map_cons, List.cons.injEq] at h
      rw [mapO_cons, h.1, ih h.2]
      rfl
@[simp] theorem mapO_frzC_p (m : Mem) (lo n : Nat) (l : List PV) : mapO (frzC m lo n) (l.map .p) = some l :=
  mapO_some (by simp)
@[simp] theorem frzCs_p (m : Mem) (lo n : Nat) (l : List PV) : frzCs m lo n (l.map .p) = some l := mapO_frzC_p ..
@[simp] theorem frzE_c (m : Mem) (lo : Nat) (dr : Bool) (x : PV) : frzE m lo dr (.c (.p x)) = some (.c (.p x)) := by simp [frzE]
@[simp] theorem frzE_tsl (m : Mem) (lo : Nat) (dr : Bool) (x : List (List PV)) : frzE m lo dr (.c (.tsl x)) = some (.c (.p (.sl x))) := by simp [frzE]
@[simp] theorem frzE_a (m : Mem) (lo : Nat) (dr : Bool) (l : List CV) : frzE m lo dr (.a l) = (mapO (frzC m lo (cond dr 0 3)) l).bind fun ys => some (.a (ys.map .p)) := by
  simp only [frzE, frzCs]
  cases mapO (frzC m lo (cond dr 0 3)) l <;> rfl
@[simp] theorem frzT_e (m : Mem) (lo : Nat) (x : TE) : frzT m lo (.e x) = (frzE m lo false x).bind fun y => some (.e y) := by
  simp only [frzT]
  cases frzE m lo false x <;> rfl
@[simp] theorem frzT_t (m : Mem) (lo : Nat) (x : List TE) : frzT m lo (.t x) = (mapO (frzE m lo false) x).bind fun y => some (.t y) := by
  simp only [frzT]
  cases mapO (frzE m lo false) x <;> rfl
@[simp] theorem hasSlC_pc (x : Value) : hasSlC (.p (.c x)) = false := rfl
@[simp] theorem hasSlE_c (x : CV) : hasSlE (.c x) = hasSlC x := rfl
@[simp] theorem hasSlE_a (l : List CV) : hasSlE (.a l) = l.any hasSlC := rfl
@[simp] theorem hasSl_e (x : TE) : hasSl (.e x) = hasSlE x := rfl
@[simp] theorem hasSl_t (l : List TE) : hasSl (.t l) = l.any hasSlE := rfl
@[simp] theorem isOref_p (x : PV) : isOref (.p x) = false := rfl
@[simp] theorem anyOref_nil : anyOref [] = false := rfl
@[simp] theorem anyOref_cons (x : TE) (l : List TE) : anyOref (x :: l) = (x.cells.any isOref || anyOref l) := rfl
@[simp] theorem any_isOref_p (l : List PV) : (l.map CV.p).any isOref = false := by simp [List.any_map, Function.comp_def]

/-! ### Calls -/
noncomputable def ans (E : Env) (g : FuncId) (args : List TE) (m : Mem) : Option Out := match E.ext g with
  | some f => f args m
  | none => ex E (entry E.P g args m)
theorem ans_none {E : Env} {g : FuncId} (h : E.ext g = none) (args : List TE) (m : Mem) : ans E g args m = ex E (entry E.P g args m) := by simp [ans, h]
theorem ans_ext {E : Env} {g : FuncId} {f : List TE → Mem → Option Out} (h : E.ext g = some f) (args : List TE) (m : Mem) : ans E g args m = f args m := by simp [ans, h]
/-- What a function answers that sees no memory. -/
inductive IRes where
  | ret (v : TV)
  | pan (v : Value)
def frz0 (r : Out) : Option IRes := match r.1 with
  | .ret v => (frzT r.2 0 v).bind fun v => some (.ret v)
  | .pan v => some (.pan v)
@[simp] theorem frz0_ret (v : TV) (m : Mem) : frz0 (.ret v, m) = (frzT m 0 v).bind fun v => some (.ret v) := rfl
@[simp] theorem frz0_pan (v : Value) (m : Mem) : frz0 (.pan v, m) = some (.pan v) := rfl
@[simp] theorem ite_bind {α β : Type} (p : Prop) [Decidable p] (x y : Option α) (f : α → Option β) : (if p then x else y).bind f = if p then x.bind f else y.bind f := by
  split <;> rfl
@[simp] theorem cond_bind {α β : Type} (b : Bool) (x y : Option α) (f : α → Option β) : (cond b x y).bind f = cond b (x.bind f) (y.bind f) := by
  cases b <;> rfl
noncomputable def ansI (E : Env) (g : FuncId) (args : List TE) : Option IRes := (ans E g args []).bind frz0
theorem ansI_none {E : Env} {g : FuncId} (h : E.ext g = none) (args : List TE) : ansI E g args = (ex E (entry E.P g args [])).bind frz0 := by rw [ansI, ans_none h]
section
variable {E : Env} {draw : Bool} {g : FuncId} {args : List TE} {m : Mem}
theorem askK_eq {k : Out → Option Out} : askK (optA (ex E) (ex E)) E g args m k = (ans E g args m).bind k := by
  unfold askK ans
  cases hx : E.ext g with
  | some f => cases hf : f args m <;> simp [hf]
  | none => rfl
theorem callI_eq {k : TV → Option Out} : callI (optA (ex E) (ex E)) E draw g args m k = (mapO (frzE m 0 draw) args).bind fun pa => (ansI E g pa).bind fun r => match r with
    | .ret v => cond (anyOref args && hasSl v) none (k v)
    | .pan v => cond draw none (some (.pan v, m)) := by
  unfold callI ansI
  cases hm : mapO (frzE m 0 draw) args with
  | none => rfl
  | some pa =>
    simp only [optA_bind_some, askK_eq, Option.bind_some]
    cases ha : ans E g pa [] with
    | none => rfl
    | some r =>
      obtain ⟨r1, r2⟩ := r
      cases r1 with
      | ret v =>
        simp only [Option.bind_some, frz0_ret]
        cases frzT r2 0 v <;> rfl
      | pan v => cases draw <;> rfl
/-- A call by what it answers. -/
theorem callI_ret {k : TV → Option Out} {pa : List TE} {v : TV} (h1 : mapO (frzE m 0 draw) args = some pa) (h2 : ansI E g pa = some (.ret v)) (h3 : (anyOref args && hasSl v) = false) : callI (optA (ex E) (ex E)) E draw g args m k = k v := by
  rw [callI_eq, h1, Option.bind_some, h2, Option.bind_some]
  simp [h3]
theorem ansI_ret {v v' : TV} {m' : Mem} (h : ans E g args [] = some (.ret v, m')) (hf : frzT m' 0 v = some v') : ansI E g args = some (.ret v') := by
  simp [ansI, h, hf]
theorem callW_eq {k : TV → Mem → Option Out} : callW (optA (ex E) (ex E)) E draw g args m k = (ans E g args m).bind fun r => match r.1 with
    | .ret v => k v r.2
    | .pan v => cond draw none (some (.pan v, r.2)) := by
  unfold callW
  rw [askK_eq]
  cases ans E g args m with
  | none => rfl
  | some r => cases r.1 <;> cases draw <;> rfl
theorem callW_ret {k : TV → Mem → Option Out} {v : TV} {m' : Mem} (h : ans E g args m = some (.ret v, m')) : callW (optA (ex E) (ex E)) E draw g args m k = k v m' := by
  rw [callW_eq, h]
  rfl
theorem callR_ret {k : TV → Option Out} {v v' : TV} {m' : Mem} (h : ans E g args m = some (.ret v, m')) (hp : m <+: m') (hf : frzT m' m.length v = some v') : callR (optA (ex E) (ex E)) E draw g args m k = k v' := by
  unfold callR
  rw [askK_eq, h]
  simp [hf, prefixK, hp]
theorem callA_ret {k : TV → Mem → Option Out} {v : TV} {m' : Mem} (h : ans E g args m = some (.ret v, m')) (hp : m <+: m') : callA (optA (ex E) (ex E)) E draw g args m k = k v m' := by
  unfold callA
  rw [askK_eq, h]
  simp [prefixK, hp]
theorem conK_ok {l : List Con} {k : Option Out} (h : ∀ c ∈ l, c.ok) : conK (optA (ex E) (ex E)) l k = k := by
  unfold conK
  rw [if_pos h]
end
@[simp] theorem ok_ne (a b : Nat) : (Con.ne a b).ok ↔ (a = 0 ∨ a ≠ b) := Iff.rfl
@[simp] theorem ok_same0 (m m' : Mem) : (Con.same m m' 0).ok := .inl rfl
end Go.Ab

/- Slices that grow: what a local slice holds; loads, appends, freezing. -/
namespace Go.Ab
open Go

/-- Cells that name no memory. -/
abbrev up (es : List (List PV)) : List (List CV) := es.map fun e => e.map CV.p
theorem at?_some {m : Mem} {id ver : Nat} {o : AObj} (h : m[id]? = some o) (hl : o.live = true) (hv : o.ver = ver) : m.at? id ver = some o := by
  simp [Mem.at?, h, hl, hv]
theorem at?_get {m : Mem} {id ver : Nat} {o : AObj} (h : m.at? id ver = some o) : m[id]? = some o ∧ o.live = true ∧ o.ver = ver := by
  unfold Mem.at? at h
  split at h
  · rename_i o' ho
    cases hc : (o'.live && o'.ver == ver) with
    | false => rw [hc] at h; cases h
    | true =>
      rw [hc] at h
      cases h
      simp only [Bool.and_eq_true, beq_iff_eq] at hc
      exact ⟨ho, hc.1, hc.2⟩
  · cases h
theorem at?_same {m m' : Mem} {id ver : Nat} (h : m'[id]? = m[id]?) : m'.at? id ver = m.at? id ver := by simp only [Mem.at?, h]
@[simp] theorem at?_zero (o : AObj) (m : Mem) (ver : Nat) : Mem.at? (o :: m) 0 ver = cond (o.live && o.ver == ver) (some o) none := rfl
@[simp] theorem at?_succ (o : AObj) (m : Mem) (id ver : Nat) : Mem.at? (o :: m) (id + 1) ver = Mem.at? m id ver := rfl
@[simp] theorem at?_one (o : AObj) (m : Mem) (ver : Nat) : Mem.at? (o :: m) 1 ver = Mem.at? m 0 ver := rfl
@[simp] theorem at?_two (o o' : AObj) (m : Mem) (ver : Nat) : Mem.at? (o :: o' :: m) 2 ver = Mem.at? m 0 ver := rfl
theorem at?_app (m : Mem) (o : AObj) (ver : Nat) : Mem.at? (m ++ [o]) m.length ver = cond (o.live && o.ver == ver) (some o) none := by
  simp [Mem.at?]
theorem at?_left {m : Mem} {id : Nat} (h : id < m.length) (l : List AObj) (ver : Nat) : Mem.at? (m ++ l) id ver = Mem.at? m id ver := by
  simp [Mem.at?, List.getElem?_append_left h]

/-! ### A slice whose elements are read -/
theorem aidx_map {α : Type} {l : List α} {enc : α → List PV} {i k : Nat} {v : α} {m : Mem} (h : l[i]? = some v) (hk : (enc v).length = k) : aidx k (.e (.c (.p (.sl (l.map enc))))) (i : Int) m = some (.ip (enc v) 0) := by
  simp [aidx, h, hk]
theorem aidx_sl {es : List (List PV)} {e : List PV} {i k : Nat} {m : Mem} (h : es[i]? = some e) (hk : e.length = k) : aidx k (.e (.c (.p (.sl es)))) (i : Int) m = some (.ip e 0) := by
  simp [aidx, h, hk]

/-! ### A local slice -/
def LS (ety k : Nat) (m : Mem) (x : CV) (es : List (List CV)) : Prop :=
  (x = .tsl [] ∧ es = []) ∨ ∃ id ver o, x = .oref id ver 0 es.length ∧ m.at? id ver = some o ∧ o.es = es ∧ o.k = k ∧ o.ety = ety
section
variable {ety k : Nat} {m m' : Mem} {x : CV} {es : List (List CV)}
theorem LS.nil : LS ety k m (.tsl []) [] := .inl ⟨rfl, rfl⟩
theorem LS.keep (h : LS ety k m x es) (hm : ∀ id, id + 1 = idOf (.e (.c x)) → m'[id]? = m[id]?) : LS ety k m' x es := by
  rcases h with h | ⟨id, ver, o, rfl, h2, h3⟩
  · exact .inl h
  · refine .inr ⟨id, ver, o, rfl, ?_, h3⟩
    rw [at?_same (hm id rfl)]
    exact h2
theorem LS.len (h : LS ety k m x es) : alen (.e (.c x)) = some (es.length : Int) ∧ isPC (.e (.c x)) = false := by
  rcases h with ⟨rfl, rfl⟩ | ⟨id, ver, o, rfl, _⟩ <;> exact ⟨rfl, rfl⟩
theorem LS.elems (h : LS ety k m x es) : elems (.e (.c x)) m = some es := by
  rcases h with ⟨rfl, rfl⟩ | ⟨id, ver, o, rfl, h2, h3, _⟩
  · rfl
  · simp [Ab.elems, h2, h3]
theorem LS.lt (h : LS ety k m x es) : ∀ id, id + 1 = idOf (.e (.c x)) → id < m.length := by
  intro id hid
  rcases h with ⟨rfl, rfl⟩ | ⟨id', ver, o, rfl, h2, _⟩
  · cases hid
  · simp at hid
    subst hid
    exact (List.getElem?_eq_some_iff.1 (at?_get h2).1).1
/-- Its elements are read. -/
theorem LS.load (h : LS ety k m x es) {i : Nat} {e : List CV} (he : es[i]? = some e) : ∃ a, aidx k (.e (.c x)) (i : Int) m = some a ∧ idOf (.e (.c a)) = idOf (.e (.c x)) ∧ ∀ off n agg, (afield off (.e (.c a))).bind (fun b => aload n agg (.e (.c b)) m) = pick n agg (e.drop off) ∧ aload n agg (.e (.c a)) m = pick n agg e := by
  have hlt := (List.getElem?_eq_some_iff.1 he).1
  rcases h with ⟨rfl, rfl⟩ | ⟨id, ver, o, rfl, h2, h3, h4, _⟩
  · simp at he
  · have h5 := at?_get h2
    refine ⟨.ref id ver i 0, ?_, rfl, fun off n agg => ?_⟩
    · have : hasK k m id = true := by simp [hasK, h5.1, h4]
      simp [aidx, this]
      omega
    · subst h3
      simp [aload_ref, h2, he]
theorem allLen_nil (k : Nat) : allLen k [] = true := rfl
theorem allLen_app {k : Nat} : ∀ {a b : List (List CV)}, allLen k a = true → allLen k b = true → allLen k (a ++ b) = true
  | [], b, _, h => h
  | x :: a, b, h, h' => by
    simp only [List.cons_append, allLen, Bool.and_eq_true] at h ⊢
    exact ⟨h.1, allLen_app h.2 h'⟩
/-- An append to a local slice. -/
theorem LS.append (h : LS ety k m x es) {bytes : Nat} {s : TV} {new : List (List CV)} (hs : Ab.elems s m = some new) (hk : allLen k new = true) (hb : (es.length + new.length) * bytes ≤ roomB) :
    ∃ x' m', aappend ety k bytes (.e (.c x)) s m = some (x', m') ∧ LS ety k m' x' (es ++ new) ∧ m.length ≤ m'.length ∧ (∀ id, id < m.length → id + 1 ≠ idOf (.e (.c x)) → m'[id]? = m[id]?) ∧ (idOf (.e (.c x')) = idOf (.e (.c x)) ∨ idOf (.e (.c x')) = m.length + 1) := by
  cases new with
  | nil =>
    rcases h with ⟨rfl, rfl⟩ | ⟨id, ver, o, rfl, h2, h3⟩
    · exact ⟨.tsl [], m, by simp [aappend, hs, allLen], .inl ⟨rfl, rfl⟩, Nat.le_refl _, fun _ _ _ => rfl, .inl rfl⟩
    · exact ⟨.oref id ver 0 es.length, m, by simp [aappend, hs, allLen], .inr ⟨id, ver, o, by simp, h2, by simpa using h3⟩, Nat.le_refl _, fun _ _ _ => rfl, .inl rfl⟩
  | cons n1 ns =>
    rcases h with ⟨rfl, rfl⟩ | ⟨id, ver, o, rfl, h2, h3, h4, h5⟩
    · refine ⟨.oref m.length 0 0 (n1 :: ns).length, m ++ [⟨0, k, ety, true, n1 :: ns⟩], ?_, .inr ⟨m.length, 0, ⟨0, k, ety, true, n1 :: ns⟩, rfl, ?_, rfl, rfl, rfl⟩, by simp, fun id hid _ => ?_, .inr rfl⟩
      · have : ((ns.length + 1) * bytes ≤ roomB) := by simpa using hb
        simp [aappend, hs, hk, fresh, allLen_nil, this]
      · simp [Mem.at?]
      · rw [List.getElem?_append_left hid]
    · have h6 := at?_get h2
      have hlt := (List.getElem?_eq_some_iff.1 h6.1).1
      refine ⟨.oref id (ver + 1) 0 (es ++ (n1 :: ns)).length, m.set id { o with ver := ver + 1, es := es ++ (n1 :: ns) }, ?_, .inr ⟨id, ver + 1, { o with ver := ver + 1, es := es ++ (n1 :: ns) }, rfl, ?_, rfl, h4, h5⟩, by simp, fun id' _ hne => ?_, .inl rfl⟩
      · have : ((es.length + (ns.length + 1)) * bytes ≤ roomB) := by simpa using hb
        subst h3
        simp [aappend, hs, hk, h2, h4, h5, this]
      · simp [Mem.at?, hlt, h6.2.1]
      · rw [List.getElem?_set_ne]
        intro he
        apply hne
        simp [he]
/-- A local slice whose elements name no memory, frozen. -/
theorem LS.frz {ps : List (List PV)} (h : LS ety k m x (up ps)) (dr : Bool) : frzE m 0 dr (.c x) = some (.c (.p (.sl ps))) := by
  rcases h with ⟨rfl, he⟩ | ⟨id, ver, o, rfl, h2, h3, _⟩
  · have : ps = [] := by simpa using he
    subst this
    simp
  · have hm : ∀ n, mapO (mapO (frzC m 0 n)) (up ps) = some ps := by
      intro n
      refine mapO_some ?_
      rw [List.map_map]
      exact List.map_congr_left fun e _ => mapO_frzC_p m 0 n e
    have ht : List.take ps.length (up ps) = up ps := List.take_of_length_le (by simp)
    cases dr <;> simp [frzE, frzC, h2, h3, ht, hm]
end
end Go.Ab
