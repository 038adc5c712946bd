/- Every operation of the machine, and every run, is sound. -/
import Derived.Test.YtjbilloofeedgaaFa
import Derived.Laws.Slices
import Derived.Laws.Unary
import Derived.Laws.Cover1
import Derived.Laws.StructEq
import Derived.Laws.BytesString
import Derived.Laws.MakeOwn
import Derived.Laws.Build
set_option linter.unusedVariables false
set_option linter.unusedSimpArgs false
/- Calls that see memory: what lies behind is cut off, and put back. -/
namespace Go.Ab
open Go

def Gh.cut (G : Gh) (n : Nat) : Gh := ⟨G.at_.take n, G.hid⟩
/-- 'M' is 'm', and places that are kept. -/
structure Padded (m M : Mem) : Prop where
  whole : Whole m M
  dead : ∀ (id : Nat) (o : AObj), m.length ≤ id → M[id]? = some o → o.live = false
section
variable {G : Gh} {m M : Mem} {w : World}
theorem Padded.le (h : Padded m M) : m.length ≤ M.length := by
  rcases Nat.lt_or_ge M.length m.length with hl | hl
  · obtain ⟨hh, _⟩ := List.getElem?_eq_some_iff.1 (h.whole M.length _ (List.getElem?_eq_getElem hl))
    omega
  · exact hl
theorem Padded.lt (h : Padded m M) {id : Nat} {o : AObj} (ho : M[id]? = some o) (hl : o.live = true) : id < m.length := by
  rcases Nat.lt_or_ge id m.length with h' | h'
  · exact h'
  · rw [h.dead id o h' ho] at hl
    cases hl
theorem Padded.back (h : Padded m M) {id : Nat} {o : AObj} (ho : M[id]? = some o) (hl : o.live = true) : m[id]? = some o := by
  have hlt := h.lt ho hl
  have h1 := h.whole id _ (List.getElem?_eq_getElem hlt)
  rw [ho] at h1
  cases h1
  exact List.getElem?_eq_getElem hlt
theorem Padded.eq (h : Padded m M) : M = m ++ M.drop m.length := by
  refine List.ext_getElem? fun i => ?_
  rw [List.getElem?_append]
  split
  · rename_i hi
    rw [h.whole i _ (List.getElem?_eq_getElem hi), List.getElem?_eq_getElem hi]
  · rw [List.getElem?_drop]
    congr 1
    omega
theorem cut_at (hR : Rel G M w) (h : Padded m M) {i : Nat} {x : Nat × Nat} (hi : G.at_[i]? = some (some x)) : i < m.length ∧ (G.cut m.length).at_[i]? = some (some x) := by
  obtain ⟨o, ho, hl⟩ := hR.dead i x hi
  have hlt := h.lt ho hl
  exact ⟨hlt, by simp only [Gh.cut]; rw [List.getElem?_take, if_pos hlt]; exact hi⟩
theorem cut_at' {n i : Nat} {x : Nat × Nat} (hi : (G.cut n).at_[i]? = some (some x)) : G.at_[i]? = some (some x) := by
  simp only [Gh.cut, List.getElem?_take] at hi
  split at hi
  · exact hi
  · cases hi
theorem cut_own (hR : Rel G M w) (h : Padded m M) (b : Nat) : (G.cut m.length).own b ↔ G.own b := by
  constructor
  · rintro ⟨i, o, hi⟩
    exact ⟨i, o, cut_at' hi⟩
  · rintro ⟨i, o, hi⟩
    exact ⟨i, o, (cut_at hR h hi).2⟩
theorem cut_ok (hR : Rel G M w) (h : Padded m M) {b : Nat} : (G.cut m.length).ok w b ↔ G.ok w b := by
  simp only [Gh.ok, cut_own hR h]
  rfl
theorem cr_cut (hR : Rel G M w) (h : Padded m M) {x : CV} {v : Value} (hx : CR G M w x v) : CR (G.cut m.length) m w x v := by
  induction hx with
  | p hx => exact .p (hx.weaken fun b hb => (cut_ok hR h).2 hb)
  | tsl hx => exact .tsl (hx.weaken fun b hb => (cut_ok hR h).2 hb)
  | ref o ho hl hv hg =>
    refine .ref o (h.back ho hl) hl hv fun he => ?_
    obtain ⟨g, b, hat, ha⟩ := hg he
    exact ⟨g, b, (cut_at hR h hat).2, ha⟩
  | oref o ho hl hv hc hg =>
    refine .oref o (h.back ho hl) hl hv hc fun he => ?_
    obtain ⟨g, b, hat, ha⟩ := hg he
    exact ⟨g, b, (cut_at hR h hat).2, ha⟩
  | toref o ho hl hv hg =>
    refine .toref o (h.back ho hl) hl hv fun he => ?_
    obtain ⟨g, b, hat, ha⟩ := hg he
    exact ⟨g, b, (cut_at hR h hat).2, ha⟩
  | ip b o cv hb hc hp => exact .ip b o cv ((cut_ok hR h).2 hb) hc fun j x hj => (hp j x hj).weaken fun b hb => (cut_ok hR h).2 hb
  | clo hf hc _ _ ih ih' => exact .clo hf hc ih ih'
theorem ter_cut (hR : Rel G M w) (h : Padded m M) {x : TE} {v : Value} (hx : TER G M w x v) : TER (G.cut m.length) m w x v := by
  cases hx with
  | c hx => exact .c (cr_cut hR h hx)
  | a hn hx => exact .a hn fun i x v hi hv => cr_cut hR h (hx i x v hi hv)
theorem rel_cut (hR : Rel G M w) (h : Padded m M) : Rel (G.cut m.length) m w where
  len := by
    simp only [Gh.cut, List.length_take, hR.len]
    exact Nat.min_eq_left h.le
  obj id o ho hl := by
    obtain ⟨g, b, hat, ⟨cs, h1, h2, h3⟩⟩ := hR.obj id o (h.whole id o ho) hl
    refine ⟨g, b, (cut_at hR h hat).2, cs, h1, h2, fun idx e he => ⟨(h3 idx e he).1, fun j x hj => ?_⟩⟩
    obtain ⟨v, hv, hx⟩ := (h3 idx e he).2 j x hj
    exact ⟨v, hv, cr_cut hR h hx⟩
  inj i j g b b' hi hj := hR.inj i j g b b' (cut_at' hi) (cut_at' hj)
  lt i g b hi := hR.lt i g b (cut_at' hi)
  hid i g b hi := hR.hid i g b (cut_at' hi)
  hlt := hR.hlt
  dead i x hi := by
    obtain ⟨o, ho, hl⟩ := hR.dead i x (cut_at' hi)
    exact ⟨o, h.back ho hl, hl⟩

/-- Back in the caller's memory. -/
def Gh.glue (G G' : Gh) (n : Nat) : Gh := ⟨G'.at_ ++ G.at_.drop n, G.hid⟩
variable {G' : Gh} {m' : Mem} {w' : World}
theorem glue_at (hR : Rel G M w) (h : Padded m M) (hr : Rel G' m' w') (hle : m.length ≤ m'.length) {i : Nat} {x : Nat × Nat} : (G.glue G' m'.length).at_[i]? = some (some x) ↔ G'.at_[i]? = some (some x) := by
  simp only [Gh.glue]
  rw [List.getElem?_append]
  constructor
  · intro hi
    split at hi
    · exact hi
    · rw [List.getElem?_drop] at hi
      have := (cut_at hR h hi).1
      rw [hr.len] at this
      omega
  · intro hi
    rw [if_pos (List.getElem?_eq_some_iff.1 hi).1]
    exact hi
theorem glue_own (hR : Rel G M w) (h : Padded m M) (hr : Rel G' m' w') (hle : m.length ≤ m'.length) (b : Nat) : (G.glue G' m'.length).own b ↔ G'.own b := by
  simp only [Gh.own, glue_at hR h hr hle]
theorem glue_ok (hR : Rel G M w) (h : Padded m M) (hr : Rel G' m' w') (hle : m.length ≤ m'.length) (hh : G'.hid = G.hid) {b : Nat} : (G.glue G' m'.length).ok w' b ↔ G'.ok w' b := by
  simp only [Gh.ok, glue_own hR h hr hle, hh]
  rfl
theorem glue_mem {id : Nat} {o : AObj} (ho : m'[id]? = some o) : (m' ++ M.drop m'.length)[id]? = some o := by
  rw [List.getElem?_append_left (List.getElem?_eq_some_iff.1 ho).1]
  exact ho
theorem cr_glue (hR : Rel G M w) (h : Padded m M) (hr : Rel G' m' w') (hle : m.length ≤ m'.length) (hh : G'.hid = G.hid) {x : CV} {v : Value} (hx : CR G' m' w' x v) : CR (G.glue G' m'.length) (m' ++ M.drop m'.length) w' x v := by
  induction hx with
  | p hx => exact .p (hx.weaken fun b hb => (glue_ok hR h hr hle hh).2 hb)
  | tsl hx => exact .tsl (hx.weaken fun b hb => (glue_ok hR h hr hle hh).2 hb)
  | ref o ho hl hv hg =>
    refine .ref o (glue_mem ho) hl hv fun he => ?_
    obtain ⟨g, b, hat, ha⟩ := hg he
    exact ⟨g, b, (glue_at hR h hr hle).2 hat, ha⟩
  | oref o ho hl hv hc hg =>
    refine .oref o (glue_mem ho) hl hv hc fun he => ?_
    obtain ⟨g, b, hat, ha⟩ := hg he
    exact ⟨g, b, (glue_at hR h hr hle).2 hat, ha⟩
  | toref o ho hl hv hg =>
    refine .toref o (glue_mem ho) hl hv fun he => ?_
    obtain ⟨g, b, hat, ha⟩ := hg he
    exact ⟨g, b, (glue_at hR h hr hle).2 hat, ha⟩
  | ip b o cv hb hc hp => exact .ip b o cv ((glue_ok hR h hr hle hh).2 hb) hc fun j x hj => (hp j x hj).weaken fun b hb => (glue_ok hR h hr hle hh).2 hb
  | clo hf hc _ _ ih ih' => exact .clo hf hc ih ih'
theorem tvr_glue (hR : Rel G M w) (h : Padded m M) (hr : Rel G' m' w') (hle : m.length ≤ m'.length) (hh : G'.hid = G.hid) {x : TV} {v : Value} (hx : TVR G' m' w' x v) : TVR (G.glue G' m'.length) (m' ++ M.drop m'.length) w' x v := by
  have te : ∀ {x : TE} {v : Value}, TER G' m' w' x v → TER (G.glue G' m'.length) (m' ++ M.drop m'.length) w' x v := by
    intro x v hx
    cases hx with
    | c hx => exact .c (cr_glue hR h hr hle hh hx)
    | a hn hx => exact .a hn fun i x v hi hv => cr_glue hR h hr hle hh (hx i x v hi hv)
  cases hx with
  | e hx => exact .e (te hx)
  | t hn hx => exact .t hn fun i x v hi hv => te (hx i x v hi hv)
  | bad => exact .bad _
theorem glue_dead (hR : Rel G M w) (h : Padded m M) (hle : m.length ≤ m'.length) {id : Nat} {o : AObj} (ho : (m' ++ M.drop m'.length)[id]? = some o) (hl : o.live = true) : m'[id]? = some o := by
  rw [List.getElem?_append] at ho
  split at ho
  · exact ho
  · rw [List.getElem?_drop] at ho
    have := h.lt ho hl
    omega
theorem rel_glue (hR : Rel G M w) (h : Padded m M) (hr : Rel G' m' w') (hle : m.length ≤ m'.length) (hle' : m'.length ≤ M.length) (hh : G'.hid = G.hid) : Rel (G.glue G' m'.length) (m' ++ M.drop m'.length) w' where
  len := by simp [Gh.glue, hr.len, hR.len]
  obj id o ho hl := by
    obtain ⟨g, b, hat, ⟨cs, h1, h2, h3⟩⟩ := hr.obj id o (glue_dead hR h hle ho hl) hl
    refine ⟨g, b, (glue_at hR h hr hle).2 hat, cs, h1, h2, fun idx e he => ⟨(h3 idx e he).1, fun j x hj => ?_⟩⟩
    obtain ⟨v, hv, hx⟩ := (h3 idx e he).2 j x hj
    exact ⟨v, hv, cr_glue hR h hr hle hh hx⟩
  inj i j g b b' hi hj := hr.inj i j g b b' ((glue_at hR h hr hle).1 hi) ((glue_at hR h hr hle).1 hj)
  lt i g b hi := hr.lt i g b ((glue_at hR h hr hle).1 hi)
  hid i g b hi := by
    have := hr.hid i g b ((glue_at hR h hr hle).1 hi)
    rw [hh] at this
    exact this
  hlt b hb := hr.hlt b (by rw [hh]; exact hb)
  dead i x hi := by
    obtain ⟨o, ho, hl⟩ := hr.dead i x ((glue_at hR h hr hle).1 hi)
    exact ⟨o, glue_mem ho, hl⟩
theorem ev_glue (hR : Rel G M w) (h : Padded m M) (hr : Rel G' m' w') (hle : m.length ≤ m'.length) (he : Ev (G.cut m.length) m w G' m' w') : Ev G M w (G.glue G' m'.length) (m' ++ M.drop m'.length) w' where
  size := he.size
  shape := he.shape
  os := he.os
  tape := he.tape
  output := he.output
  hid := rfl
  keep b hb hn := he.keep b hb fun ho => hn ((cut_own hR h b).1 ho)
  new b hb := by
    rcases he.new b ((glue_own hR h hr hle b).1 hb) with h1 | h1
    · exact .inl ((cut_own hR h b).1 h1)
    · exact .inr h1
  obj id o ho hl := by
    obtain ⟨o', h1, h2, h3, h4⟩ := he.obj id o (h.back ho hl) hl
    refine ⟨o', glue_mem h1, h2, h3, fun hv => ?_⟩
    obtain ⟨h5, h6⟩ := h4 hv
    refine ⟨?_, h6⟩
    have hlt := h.lt ho hl
    obtain ⟨g, b, hat, _⟩ := hR.obj id o ho hl
    rw [hat]
    refine (glue_at hR h hr hle).2 (h5.trans ?_)
    exact (cut_at hR h hat).2

/-- A callee that leaves all that was there as it was. -/
theorem cr_forget {Gc : Gh} {v₀ : Value} (hpre : Whole m m') (hat : ∀ (id : Nat) (o : AObj), m[id]? = some o → o.live = true → G'.at_[id]? = Gc.at_[id]?) (hok : ∀ b, G'.ok w' b → Gc.ok w' b) {x : CV} (h₀ : CR Gc m w x v₀) :
    ∀ {v : Value}, CR G' m' w' x v → CR Gc m w' x v := by
  induction h₀ with
  | p _ => intro v h; cases h with | p h => exact .p (h.weaken hok)
  | tsl _ => intro v h; cases h with | tsl h => exact .tsl (h.weaken hok)
  | ref o ho hl _ _ =>
    intro v h
    cases h with
    | ref o' ho' hl' hv' hg =>
      have := hpre _ o ho
      rw [this] at ho'
      cases ho'
      exact .ref o ho hl hv' fun he => by rw [← hat _ o ho hl]; exact hg he
  | oref o ho hl _ _ _ =>
    intro v h
    cases h with
    | oref o' ho' hl' hv' hc hg =>
      have := hpre _ o ho
      rw [this] at ho'
      cases ho'
      exact .oref o ho hl hv' hc fun he => by rw [← hat _ o ho hl]; exact hg he
  | toref o ho hl _ _ =>
    intro v h
    cases h with
    | toref o' ho' hl' hv' hg =>
      have := hpre _ o ho
      rw [this] at ho'
      cases ho'
      exact .toref o ho hl hv' fun he => by rw [← hat _ o ho hl]; exact hg he
  | ip _ _ _ _ _ _ => intro v h; cases h with | ip b o cv hb hc hp => exact .ip b o cv (hok b hb) hc fun j x hj => (hp j x hj).weaken hok
  | clo hf hc h1 h2 ih ih' =>
    intro v h
    cases h with
    | clo hf' hc' h1' h2' =>
      refine .clo hf' hc' (fun i x y hi hy => ?_) fun i x y hi hy => ?_
      · rename_i first _ fs _ _ _
        have hlt : i < fs.size := by rw [← hf]; exact (List.getElem?_eq_some_iff.1 hi).1
        exact ih i x _ hi (Array.getElem?_eq_getElem hlt) (h1' i x y hi hy)
      · rename_i _ caps _ cs _ _
        have hlt : i < cs.size := by rw [← hc]; exact (List.getElem?_eq_some_iff.1 hi).1
        exact ih' i x _ hi (Array.getElem?_eq_getElem hlt) (h2' i x y hi hy)
theorem rel_forget {Gc : Gh} (hr₀ : Rel Gc m w) (hr : Rel G' m' w') (he : Ev Gc m w G' m' w') (hpre : m <+: m') : Rel Gc m w' ∧ ∀ (id g b : Nat), m.length ≤ id → G'.at_[id]? = some (some (g, b)) → Gc.ok w' g := by
  have hW : Whole m m' := fun id o ho => by
    obtain ⟨t, rfl⟩ := hpre
    rw [List.getElem?_append_left (List.getElem?_eq_some_iff.1 ho).1]
    exact ho
  have hat : ∀ (id : Nat) (o : AObj), m[id]? = some o → o.live = true → G'.at_[id]? = Gc.at_[id]? := by
    intro id o ho hl
    obtain ⟨o', h1, _, _, h4⟩ := he.obj id o ho hl
    rw [hW id o ho] at h1
    cases h1
    exact (h4 rfl).1
  have hown : ∀ b, Gc.own b → G'.own b := by
    rintro b ⟨i, o, hi⟩
    obtain ⟨ob, h1, h2⟩ := hr₀.dead i _ hi
    exact ⟨i, o, (hat i ob h1 h2).trans hi⟩
  have hok : ∀ b, G'.ok w' b → Gc.ok w' b := fun b hb => ⟨hb.1, fun ho => hb.2.1 (hown b ho), by rw [← he.hid]; exact hb.2.2⟩
  refine ⟨⟨hr₀.len, fun id o ho hl => ?_, hr₀.inj, fun i g b hi => Nat.lt_of_lt_of_le (hr₀.lt i g b hi) he.size, hr₀.hid, fun b hb => Nat.lt_of_lt_of_le (hr₀.hlt b hb) he.size, hr₀.dead⟩, fun id g b hid hi => ?_⟩
  · obtain ⟨g₀, b₀, hat₀, ⟨cs₀, _, _, h3₀⟩⟩ := hr₀.obj id o ho hl
    obtain ⟨g, b, hat', ⟨cs, h1, h2, h3⟩⟩ := hr.obj id o (hW id o ho) hl
    rw [hat id o ho hl] at hat'
    refine ⟨g, b, hat', cs, h1, h2, fun idx e he' => ⟨(h3 idx e he').1, fun j x hj => ?_⟩⟩
    obtain ⟨v, hv, hx⟩ := (h3 idx e he').2 j x hj
    obtain ⟨v₀, _, hx₀⟩ := (h3₀ idx e he').2 j x hj
    exact ⟨v, hv, cr_forget hW hat hok hx₀ hx⟩
  · have hnew : w.heap.size ≤ g := by
      rcases he.new g ⟨id, b, hi⟩ with ⟨j, o, hj⟩ | h1
      · obtain ⟨ob, h2, h3⟩ := hr₀.dead j _ hj
        have hj' := (hat j ob h2 h3).trans hj
        have := hr.inj _ _ _ _ _ hi hj'
        have := (List.getElem?_eq_some_iff.1 h2).1
        omega
      · exact h1
    refine ⟨hr.lt _ _ _ hi, fun ⟨j, o, hj⟩ => ?_, fun hh => ?_⟩
    · have := hr₀.lt _ _ _ hj
      omega
    · have := hr₀.hlt g hh
      omega
end

/-- A call that sees memory. -/
theorem calls_mem {P : Program} {G : Gh} {m M : Mem} {w : World} (hR : Rel G M w) (hp : Padded m M) {g : FuncId} {args : List TE} {vs : Array Value} {out : Out} (ha : ArgsR G M w args vs) (hc : CallsOk P g args m out) (hle : out.2.length ≤ M.length) :
    Calls P g vs w fun e w' => match e with
      | .returned u => ∃ tv G', out.1 = .ret tv ∧ Ev G M w G' (out.2 ++ M.drop out.2.length) w' ∧ Rel G' (out.2 ++ M.drop out.2.length) w' ∧ TVR G' (out.2 ++ M.drop out.2.length) w' tv u
      | .panicked ch => ∃ pv G', out.1 = .pan pv ∧ ch = [{ v := pv, recovered := false }] ∧ Ev G M w G' (out.2 ++ M.drop out.2.length) w' ∧ Rel G' (out.2 ++ M.drop out.2.length) w'
      | .outgrown => False := by
  refine (hc.run _ w vs (rel_cut hR hp) ⟨ha.1, fun i x v hi hv => ter_cut hR hp (ha.2 i x v hi hv)⟩).mono fun e w' hq => ?_
  cases e with
  | returned u =>
    obtain ⟨tv, G', h1, h2, h3, h4⟩ := hq
    exact ⟨tv, _, h1, ev_glue hR hp h3 hc.keeps.le h2, rel_glue hR hp h3 hc.keeps.le hle h2.hid, tvr_glue hR hp h3 hc.keeps.le h2.hid h4⟩
  | panicked ch =>
    obtain ⟨pv, G', h1, h1', h2, h3⟩ := hq
    exact ⟨pv, _, h1, h1', ev_glue hR hp h3 hc.keeps.le h2, rel_glue hR hp h3 hc.keeps.le hle h2.hid⟩
  | outgrown => exact hq
/-- A call that only reads. -/
theorem calls_read {P : Program} {G : Gh} {m M : Mem} {w : World} (hR : Rel G M w) (hp : Padded m M) {g : FuncId} {args : List TE} {vs : Array Value} {tv v' : TV} {m' : Mem} (ha : ArgsR G M w args vs) (hc : CallsOk P g args m (.ret tv, m')) (hpre : m <+: m') (hf : frzT m' m.length tv = some v') :
    Calls P g vs w fun e w' => match e with
      | .returned u => Ev G M w G M w' ∧ Rel G M w' ∧ TVR G M w' v' u
      | _ => False := by
  have hrc := rel_cut hR hp
  refine (hc.run _ w vs hrc ⟨ha.1, fun i x v hi hv => ter_cut hR hp (ha.2 i x v hi hv)⟩).mono fun e w' hq => ?_
  cases e with
  | returned u =>
    obtain ⟨tv', G', h1, h2, h3, h4⟩ := hq
    cases h1
    obtain ⟨hr', hnew⟩ := rel_forget hrc h3 h2 hpre
    have hev : Ev (G.cut m.length) m w (G.cut m.length) m w' :=
      { size := h2.size, shape := h2.shape, os := h2.os, tape := h2.tape, output := h2.output, hid := rfl, keep := h2.keep, new := fun b hb => .inl hb, obj := fun id o ho hl => ⟨o, ho, hl, Nat.le_refl _, fun _ => ⟨rfl, rfl⟩⟩ }
    have eM : m ++ M.drop m.length = M := hp.eq.symm
    have eG : G.glue (G.cut m.length) m.length = G := by simp [Gh.glue, Gh.cut]
    have e1 := ev_glue hR hp hr' (Nat.le_refl _) hev
    have e2 := rel_glue hR hp hr' (Nat.le_refl _) hp.le rfl
    rw [eM, eG] at e1 e2
    refine ⟨e1, e2, ?_⟩
    have hok : ∀ b, (G.cut m.length).ok w' b → G.ok w' b := by
      intro b hb
      refine ⟨hb.1, fun ho => hb.2.1 ((cut_own hR hp b).2 ho), hb.2.2⟩
    refine frzT_r h3 (fun b hb => ?_) (fun id g b hid hat => hok g (hnew id g b hid hat)) hf h4
    refine ⟨hb.1, fun ho => ?_, by have := hb.2.2; rw [h2.hid] at this; exact this⟩
    obtain ⟨i, o, hi⟩ := (cut_own hR hp b).2 ho
    obtain ⟨ob, h5, h6⟩ := hrc.dead i _ hi
    obtain ⟨o', h7, _, _, h8⟩ := h2.obj i ob h5 h6
    obtain ⟨t, ht⟩ := hpre
    have : m'[i]? = some ob := by
      rw [← ht, List.getElem?_append_left (List.getElem?_eq_some_iff.1 h5).1]
      exact h5
    rw [this] at h7
    cases h7
    exact hb.2.1 ⟨i, o, (h8 rfl).1.trans hi⟩
  | panicked ch =>
    obtain ⟨pv, G', h1, _⟩ := hq
    cases h1
  | outgrown => exact hq
end Go.Ab

/- One operation: the machine does what the abstract machine says. -/
namespace Go.Ab
open Go

def OperR (G : Gh) (M : Mem) (w : World) (c : Cfg) (o : Oper) (a : Act) : Prop := ∀ x ∈ o.op.operands, TVR G M w (ev c.tmps x) (a.eval x)
theorem idOf_live {G : Gh} {M : Mem} {w : World} {x : TV} {u : Value} (h : TVR G M w x u) {id : Nat} (hi : idOf x = id + 1) : ∃ ob : AObj, M[id]? = some ob ∧ ob.live = true := by
  unfold idOf at hi
  split at hi
  · cases hi
    cases te_c (tv_e h) with
    | ref o ho hl => exact ⟨o, ho, hl⟩
  · cases hi
    cases te_c (tv_e h) with
    | oref o ho hl => exact ⟨o, ho, hl⟩
  · cases hi
    cases te_c (tv_e h) with
    | toref o ho hl => exact ⟨o, ho, hl⟩
  · cases hi
/-- An operation yields what it says. -/
structure OpOk (P : Program) (c : Cfg) (o : Oper) (v : TV) (m' : Mem) (ft : Foot) : Prop where
  keeps : Keeps c.mem m'
  miss : ∀ id, id < c.mem.length → id + 1 ∉ ft.wr → ft.wrAll = none → m'[id]? = c.mem[id]?
  al : ft.al = false → ft.wrAll = none → m'.length = c.mem.length
  wa : ft.wrAll = none ∨ ft.wrAll = some (c.mem, m')
  ids : ∀ (G : Gh) (M : Mem) (w : World) (a : Act), OperR G M w c o a → ∀ id, id + 1 ∈ ft.rd ∨ id + 1 ∈ ft.wr → ∃ ob : AObj, M[id]? = some ob ∧ ob.live = true
  run : ∀ (Q : Exit → Act → World → Prop) (G : Gh) (M : Mem) (w : World) (a : Act), Rel G M w → OperR G M w c o a → Agree ft c.mem m' M → (c.log.isSome = false → Whole c.mem M) → Yields' P Q o a ft c.mem m' v G M w
/-- An operation ends the call. -/
structure OpEnds (P : Program) (c : Cfg) (o : Oper) (out : Out) : Prop where
  log : c.log.isSome = false
  keeps : Keeps c.mem out.2
  run : ∀ (Q : Exit → Act → World → Prop) (G : Gh) (w : World) (a : Act), Rel G c.mem w → OperR G c.mem w c o a → Ends' P Q o a out G c.mem w
def OpSound (P : Program) (c : Cfg) (o : Oper) : OpOut → Prop
  | .val v m f => OpOk P c o v m f
  | .out x => OpEnds P c o x

section
variable {P : Program} {E : Env} {call : Cfg → Option Out} {c : Cfg} {o : Oper}
theorem OpOk.pure {v : TV} {ft : Foot} (h0 : ft.wr = []) (h1 : ft.wrAll = none)
    (h : ∀ (G : Gh) (M : Mem) (w : World) (a : Act), Rel G M w → OperR G M w c o a → Agree ft c.mem c.mem M → ∃ u, TVR G M w v u ∧ (execOp a.eval o).run P w = .ok (.value u) w)
    (hi : ∀ id, id + 1 ∈ ft.rd → ∃ x ∈ o.op.operands, idOf (ev c.tmps x) = id + 1 := by simp [Foot.nil]) : OpOk P c o v c.mem ft where
  keeps := .refl _
  miss _ _ _ _ := rfl
  al _ _ := rfl
  wa := .inl h1
  ids G M w a hx id hid := by
    rcases hid with hid | hid
    · obtain ⟨x, hxm, e⟩ := hi id hid
      exact idOf_live (hx x hxm) e
    · rw [h0] at hid; cases hid
  run Q G M w a hR ho ha _ := by
    obtain ⟨u, hu, hx⟩ := h G M w a hR ho ha
    exact .pure hR ha hu hx
theorem OpOk.new {v : TV} {ob : AObj} {ft : Foot} (h0 : ft.wr = []) (h1 : ft.wrAll = none) (h2 : ft.al = true)
    (h : ∀ (G : Gh) (M : Mem) (w : World) (a : Act), Rel G M w → OperR G M w c o a → ∃ u g w', NewObj G M w w' ob g ∧ (execOp a.eval o).run P w = .ok (.value u) w' ∧
      ∀ (G' : Gh) (M' : Mem), G'.at_[c.mem.length]? = some (some (g, 0)) → M'[c.mem.length]? = some ob → TVR G' M' w' v u) (h3 : ft.rd = [] := by rfl) : OpOk P c o v (c.mem ++ [ob]) ft where
  keeps := .app _ _
  miss id hid _ _ := by rw [List.getElem?_append_left hid]
  al h := by rw [h2] at h; cases h
  wa := .inl h1
  ids G M w a hx id hid := by
    rcases hid with hid | hid
    · rw [h3] at hid; cases hid
    · rw [h0] at hid; cases hid
  run Q G M w a hR ho ha _ := by
    obtain ⟨u, g, w', hN, hx, hv⟩ := h G M w a hR ho
    obtain ⟨o₀, h0, _⟩ := ha.new c.mem.length (Nat.le_refl _) (by simp)
    exact .new hR ha hN hx fun G' hat _ _ => hv G' _ hat (List.getElem?_set_self (List.getElem?_eq_some_iff.1 h0).1)

theorem typedK_v {ty : TypeId} {v : TV} {k : TV → Option OpOut} {r : OpOut} (h : typedK (resA call) P ty v k = some r) : k v = some r ∧ ∃ d, P.underlying ty = some d := by
  unfold typedK at h
  split at h
  · rename_i hd
    obtain ⟨b, hb, h2⟩ := bindR h
    refine ⟨?_, _, hd⟩
    unfold asB at hb
    split at hb
    · cases hb; exact h2
    · cases hb
  · rename_i kd hd
    obtain ⟨b, hb, h2⟩ := bindR h
    refine ⟨?_, _, hd⟩
    unfold asK at hb
    split at hb
    · rename_i k' n
      cases hk : decide (k' = kd) with
      | true =>
        rw [hk] at hb
        cases hb
        obtain rfl := of_decide_eq_true hk
        exact h2
      | false => rw [hk] at hb; cases hb
    · cases hb
  · rename_i hd
    obtain ⟨b, hb, h2⟩ := bindR h
    refine ⟨?_, _, hd⟩
    unfold asS at hb
    split at hb
    · cases hb; exact h2
    · cases hb
  · rename_i hd
    exact ⟨h, _, hd⟩
  · rename_i d _ _ _ _ hd
    obtain ⟨b, hb, h2⟩ := bindR h
    obtain rfl := asE_v hb
    exact ⟨h2, _, hd⟩
  · cases h
theorem zeroK_v {e : TypeId} {k : TE → Option OpOut} {r : OpOut} (h : zeroK (resA call) P e k = some r) : ∃ z, zeroE P e = some z ∧ z.cells.length = P.cellsOf e ∧ k z = some r := by
  obtain ⟨z, hz, h⟩ := bindR h
  rcases condR h with ⟨hc, h⟩ | ⟨_, h⟩
  · exact ⟨z, hz, by simpa using hc, h⟩
  · cases h
theorem condO {α : Type} {b : Bool} {x y : Option α} {r : α} (h : cond b x y = some r) : b = true ∧ x = some r ∨ b = false ∧ y = some r := by
  cases b
  · exact .inr ⟨rfl, h⟩
  · exact .inl ⟨rfl, h⟩
theorem asB_mk {v : TV} {b : Bool} (h : asB v = some b) : v = mkB b := by
  unfold asB at h
  split at h
  · cases h; rfl
  · cases h

theorem astore_keeps {n : Nat} {a x : TV} {m m' : Mem} (h : astore n a x m = some m') : Keeps m m' := by
  unfold astore at h
  split at h
  · split at h
    · rename_i o ho
      split at h
      · rcases condO h with ⟨_, h⟩ | ⟨_, h⟩
        · cases h
          exact .set (mem_at ho).1 rfl
        · cases h
      · cases h
    · cases h
  · cases h
theorem astore_lt {n : Nat} {a x : TV} {m m' : Mem} (h : astore n a x m = some m') {id : Nat} (hi : idOf a = id + 1) : id < m.length := by
  unfold astore at h
  split at h
  · split at h
    · rename_i o ho
      have := (List.getElem?_eq_some_iff.1 (mem_at ho).1).1
      simp only [idOf, Nat.add_right_cancel_iff] at hi
      omega
    · cases h
  · cases h
/-! ### Copies -/
theorem op_move {x : Operand} {r : OpOut} (ho : o.op = .move x) (h : opR E call c o = some r) : OpSound E.P c o r := by
  unfold opR opK at h
  rw [ho] at h
  cases h
  exact .pure rfl rfl fun G M w a _ hx _ => ⟨_, hx x (by simp [ho, Op.operands]), by simp [execOp, ho]⟩
theorem op_assign {x : Operand} {r : OpOut} (ho : o.op = .assign x) (h : opR E call c o = some r) : OpSound E.P c o r := by
  unfold opR opK at h
  rw [ho] at h
  cases h
  exact .pure rfl rfl fun G M w a _ hx _ => ⟨_, hx x (by simp [ho, Op.operands]), by simp [execOp, ho]⟩
theorem op_pick {cc x y : Operand} {r : OpOut} (ho : o.op = .pick cc x y) (h : opR E call c o = some r) : OpSound E.P c o r := by
  unfold opR opK at h
  rw [ho] at h
  obtain ⟨b, hb, h⟩ := bindR h
  rcases condR h with ⟨rfl, h⟩ | ⟨rfl, h⟩
  · cases h
    exact .pure rfl rfl fun G M w a _ hx _ => ⟨_, hx x (by simp [ho, Op.operands]), by
      have := (asB_v hb (hx cc (by simp [ho, Op.operands]))).1
      simp [execOp, ho, this, asBool]⟩
  · cases h
    exact .pure rfl rfl fun G M w a _ hx _ => ⟨_, hx y (by simp [ho, Op.operands]), by
      have := (asB_v hb (hx cc (by simp [ho, Op.operands]))).1
      simp [execOp, ho, this, asBool]⟩

/-! ### Memory -/
theorem op_alloc {e : TypeId} {r : OpOut} (ho : o.op = .alloc e) (h : opR E call c o = some r) : OpSound E.P c o r := by
  unfold opR opK at h
  rw [ho] at h
  obtain ⟨z, hz, h2⟩ := bindR h
  clear h
  cases h2
  refine .new rfl rfl rfl fun G M w a _ _ => ?_
  obtain ⟨w', hrun, hN⟩ := run_alloc (G := G) (m := M) (w := w) hz
  refine ⟨.pointer (some (cellAt w.heap.size 0)), _, w', hN, by simp [execOp, ho, hrun], fun G' M' hat hM => .e (.c ?_)⟩
  exact .ref _ hM rfl (Nat.le_refl _) fun _ => ⟨_, _, hat, by simp⟩
theorem op_box {e : TypeId} {x : Operand} {r : OpOut} (ho : o.op = .box e x) (h : opR E call c o = some r) : OpSound E.P c o r := by
  unfold opR opK at h
  rw [ho] at h
  obtain ⟨te, hte, h⟩ := bindR h
  cases h
  refine .new rfl rfl rfl fun G M w a _ hx => ?_
  have hx := hx x (by simp [ho, Op.operands])
  rw [asE_v hte] at hx
  obtain ⟨w', hrun, hN⟩ := run_box (P := E.P) (tv_e hx) e
  refine ⟨.pointer (some (cellAt w.heap.size 0)), _, w', hN, by simp [execOp, ho, hrun], fun G' M' hat hM => .e (.c ?_)⟩
  exact .ref _ hM rfl (Nat.le_refl _) fun _ => ⟨_, _, hat, by simp⟩
theorem op_load {t : TypeId} {x : Operand} {r : OpOut} (ho : o.op = .load t x) (h : opR E call c o = some r) : OpSound E.P c o r := by
  unfold opR opK at h
  rw [ho] at h
  obtain ⟨te, hte, h⟩ := bindR h
  obtain ⟨h, d, hd⟩ := typedK_v h
  cases h
  refine .pure rfl rfl (fun G M w a hR hx ha => ?_) (fun id hid => ⟨x, by simp [ho, Op.operands], by simpa [Foot.reads, eq_comm] using hid⟩)
  obtain ⟨u, hu, hr, _⟩ := run_aload hR hd (aload_up hte (agree_up ha (.inl (by simp [Foot.reads])))) (hx x (by simp [ho, Op.operands]))
  exact ⟨u, .e hr, by simp [execOp, ho, hu]⟩
theorem op_store {t : TypeId} {x y : Operand} {r : OpOut} (ho : o.op = .store t x y) (h : opR E call c o = some r) : OpSound E.P c o r := by
  unfold opR opK at h
  rw [ho] at h
  obtain ⟨i, hi, h⟩ := bindR h
  obtain ⟨m', hm, h⟩ := bindR h
  cases h
  have hst := astore_up (M := c.mem) hm fun _ _ _ h => h
  obtain ⟨id, o', hid, rfl, _⟩ := hst
  have hst := astore_keeps hm
  exact
    { keeps := hst
      miss := fun i hi hn _ => by
        rw [List.getElem?_set_ne]
        rintro rfl
        exact hn (by simp [hid])
      al := fun _ _ => by simp
      wa := .inl rfl
      ids := fun G M w a hx i hi => by
        rcases hi with hi | hi
        · cases hi
        · exact idOf_live (hx x (by simp [ho, Op.operands])) (by simpa [eq_comm] using hi)
      run := fun Q G M w a hR hx ha _ next hn => by
        obtain ⟨id', o'', hid', he, hM⟩ := astore_up hm (agree_up ha (.inr (by simp)))
        have hidlt := astore_lt hm hid'
        obtain rfl : id = id' := by omega
        obtain ⟨_, _, _, _, _, w', g, b, _, _, _, hrun, _, hev, hrl⟩ := run_astore hR hi hM (hx x (by simp [ho, Op.operands])) (hx y (by simp [ho, Op.operands]))
        rw [he] at ha
        unfold Oper.wp
        have : (execOp a.eval o).run E.P w = .ok .skip w' := by simp [execOp, ho, hrun]
        rw [this]
        refine hn _ _ w' undef ?_ hev hrl (undefR _ _ _)
        rw [he]
        exact .set ha (by simp [hid]) hidlt }
theorem op_nilCheck {x : Operand} {r : OpOut} (ho : o.op = .nilCheck x) (h : opR E call c o = some r) : OpSound E.P c o r := by
  unfold opR opK at h
  rw [ho] at h
  obtain ⟨v, hv, h⟩ := bindR h
  cases h
  refine .pure rfl rfl fun G M w a hR hx ha => ?_
  have hx := hx x (by simp [ho, Op.operands])
  refine ⟨a.eval x, ?_, ?_⟩
  · unfold anil at hv
    split at hv <;> first | (rename_i e; cases hv; rw [e] at hx; exact hx) | cases hv
  · generalize hu : a.eval x = u at hx
    unfold anil at hv
    split at hv
    · rename_i e
      rw [e] at hx
      cases te_c (tv_e hx) with
      | ref => simp [execOp, ho, hu]
    · rename_i e
      rw [e] at hx
      cases te_c (tv_e hx) with
      | ip => simp [execOp, ho, hu]
    · rename_i e
      rw [e] at hx
      cases te_c (tv_e hx) with
      | clo => simp [execOp, ho, hu]
    · cases hv
end
end Go.Ab

/- Operators, fields, slices: the machine does what the abstract machine says. -/
namespace Go.Ab
open Go

section
variable {P : Program} {E : Env} {call : Cfg → Option Out} {c : Cfg} {o : Oper} {G : Gh} {m : Mem} {w : World}
/-! ### Parts of a struct -/
theorem agg_run {t : TypeId} {d : TypeDesc} (hd : P.underlying t = some d) : (isAgg t).run P w = .ok (isAggT P t) w := by
  simp only [isAgg, Sem.run_bind, run_underlying hd, Result.andThen_ok, isAggT, hd]
  split <;> simp_all
theorem info_of {t : TypeId} {d : TypeDesc} (hd : P.underlying t = some d) : ∃ i, P.info? t = some i := by
  unfold Program.underlying at hd
  split at hd
  · exact ⟨_, by assumption⟩
  · exact ⟨_, by assumption⟩
  · cases hd
def CsR (G : Gh) (m : Mem) (w : World) (cs : List CV) (xs : Array Value) : Prop := cs.length = xs.size ∧ ∀ (i : Nat) x v, cs[i]? = some x → xs[i]? = some v → CR G m w x v
theorem run_part {t : TypeId} {d : TypeDesc} (hd : P.underlying t = some d) {cs : List CV} {xs : Array Value} (hc : CsR G m w cs xs) {off : Nat} {te : TE} (hp : pick (P.cellsOf t) (isAggT P t) (cs.drop off) = some te) :
    ∃ u, (part t xs off).run P w = .ok u w ∧ TER G m w te u := by
  obtain ⟨i, hi⟩ := info_of hd
  have hsz : P.cellsOf t = i.size := by simp [Program.cellsOf, hi]
  cases ha : isAggT P t with
  | true =>
    rw [ha, hsz] at hp
    simp only [pick] at hp
    rcases condO hp with ⟨hl, hp⟩ | ⟨_, hp⟩
    · cases hp
      simp only [List.length_drop, decide_eq_true_eq] at hl
      refine ⟨.agg (xs.extract off (off + i.size)), by simp [part, agg_run hd, ha, sizeOf, typeInfo, hi], .a ?_ fun j x v hj hv => ?_⟩
      · simp only [List.length_take, List.length_drop, Array.size_extract, hc.1]
        omega
      · rw [List.getElem?_take] at hj
        split at hj
        · rename_i hlt
          rw [List.getElem?_drop] at hj
          rw [Array.getElem?_extract] at hv
          split at hv
          · exact hc.2 _ x v hj hv
          · cases hv
        · cases hj
    · cases hp
  | false =>
    rw [ha] at hp
    simp only [pick] at hp
    split at hp
    · rename_i x _ hx
      cases hp
      have hx0 : cs[off]? = some x := by
        have : (cs.drop off)[0]? = some x := by rw [hx]; rfl
        rw [List.getElem?_drop] at this
        simpa using this
      have hlt : off < xs.size := by rw [← hc.1]; exact (List.getElem?_eq_some_iff.1 hx0).1
      refine ⟨xs[off], ?_, .c (hc.2 off x _ hx0 (by simp [hlt]))⟩
      simp [part, agg_run hd, ha, hlt]
    · cases hp

/-! ### Comparisons -/
theorem cellsEq_split : ∀ {ks : List Bool} {ls : List Bool} {xs ys : List CV} {b : Bool}, cellsEq (ks ++ ls) xs ys = some b → ∃ b1 b2, cellsEq ks (xs.take ks.length) (ys.take ks.length) = some b1 ∧ cellsEq ls (xs.drop ks.length) (ys.drop ks.length) = some b2 ∧ b = (b1 && b2)
  | [], ls, xs, ys, b, h => ⟨true, b, by simp [cellsEq], by simpa using h, by simp⟩
  | k :: ks, ls, x :: xs, y :: ys, b, h => by
    simp only [List.cons_append, cellsEq, List.length_cons, List.take_succ_cons, List.drop_succ_cons] at h ⊢
    split at h
    · rename_i b0 hb0
      split at h
      · rename_i b' hb'
        cases h
        obtain ⟨b1, b2, h1, h2, rfl⟩ := cellsEq_split hb'
        exact ⟨b0 && b1, b2, by simp [h1], h2, by rw [Bool.and_assoc]⟩
      · cases h
    · cases h
  | _ :: _, _, [], _, _, h => by simp [cellsEq] at h
  | _ :: _, _, _ :: _, [], _, h => by simp [cellsEq] at h
theorem cellsEq_len : ∀ {ks : List Bool} {xs ys : List CV} {b : Bool}, cellsEq ks xs ys = some b → xs.length = ks.length ∧ ys.length = ks.length
  | [], [], [], _, _ => ⟨rfl, rfl⟩
  | k :: ks, x :: xs, y :: ys, b, h => by
    simp only [cellsEq] at h
    split at h
    · split at h
      · rename_i b' hb'
        have := cellsEq_len hb'
        simp [this]
      · cases h
    · cases h
  | [], _ :: _, _, _, h => by simp [cellsEq] at h
  | [], [], _ :: _, _, h => by simp [cellsEq] at h
  | _ :: _, [], _, _, h => by simp [cellsEq] at h
  | _ :: _, _ :: _, [], _, h => by simp [cellsEq] at h
/-- Equal as the type says. -/
def EqAt (P : Program) (w : World) (D : Nat) (t : TypeId) (u v : Value) (b : Bool) : Prop := (Op.equalIn D t u v).run P w = .ok b w
theorem eq_plain : ∀ (d : Nat) (t : TypeId) (ks : List Bool), plainT P d t = some ks → ∀ (D : Nat) (te te' : TE) (u v : Value) (b : Bool), d ≤ D → (isAggT P t = true → ∃ cs ds, te = .a cs ∧ te' = .a ds) → (isAggT P t = false → ∃ x y, te = .c x ∧ te' = .c y) →
    cellsEq ks te.cells te'.cells = some b → TER G m w te u → TER G m w te' v → EqAt P w D t u v b := by
  intro d
  induction d with
  | zero => intro t k h; cases h
  | succ d ih =>
    intro t ks h D te te' u v b hD hag hsc heq hu hv
    obtain ⟨D, rfl⟩ : ∃ D', D = D' + 1 := ⟨D - 1, by omega⟩
    simp only [plainT] at h
    split at h
    · rename_i kd hd
      cases h
      have ha : isAggT P t = false := by simp [isAggT, hd]
      obtain ⟨x, y, rfl, rfl⟩ := hsc ha
      simp only [TE.cells, cellsEq] at heq
      split at heq
      · rename_i b0 hb0
        simp only [Bool.and_true, Option.some.injEq] at heq
        subst heq
        simp only [oneEq] at hb0
        split at hb0
        · rcases condO hb0 with ⟨hk, hb0⟩ | ⟨_, hb0⟩
          · cases hb0
            obtain rfl := of_decide_eq_true hk
            obtain rfl := cr_pc (te_c hu)
            obtain rfl := cr_pc (te_c hv)
            exact run_equalIn_int w D t _ kd _ _ hd
          · cases hb0
        · cases hb0
      · cases heq
    · rename_i hd
      cases h
      have ha : isAggT P t = false := by simp [isAggT, hd]
      obtain ⟨x, y, rfl, rfl⟩ := hsc ha
      simp only [TE.cells, cellsEq] at heq
      split at heq
      · rename_i b0 hb0
        simp only [Bool.and_true, Option.some.injEq] at heq
        subst heq
        simp only [oneEq] at hb0
        split at hb0
        · cases hb0
          obtain rfl := cr_pc (te_c hu)
          obtain rfl := cr_pc (te_c hv)
          unfold EqAt
          rw [run_equalIn_string w D t _ _ hd, ByteArray.toList_eq, ByteArray.toList_eq]
          congr 1
          rw [Bool.eq_iff_iff, beq_iff_eq, decide_eq_true_iff]
          constructor
          · intro h
            exact ByteArray.ext (Array.ext' h)
          · rintro rfl
            rfl
        · cases hb0
      · cases heq
    · rename_i fs hd
      rcases condO h with ⟨_, h⟩ | ⟨hs, h⟩
      · cases h
      have ha : isAggT P t = true := by simp [isAggT, hd]
      obtain ⟨cs, ds, rfl, rfl⟩ := hag ha
      cases hu with
      | a hn hu =>
      cases hv with
      | a hn' hv =>
      rename_i xs ys
      have hf : P.fieldsOf t = fs := by simp [Program.fieldsOf, hd]
      unfold EqAt
      rw [run_equalIn_struct w D t xs ys (by rw [hf]; exact hd) hs, hf]
      simp only [TE.cells] at heq
      -- field by field
      have key : ∀ (l : List Field) (n : Nat) (ks : List Bool) (b : Bool), plainFs P (plainT P d) l n = some ks → cellsEq ks (cs.drop n) (ds.drop n) = some b → (Op.eqFields D xs ys l).run P w = .ok b w := by
        intro l
        induction l with
        | nil =>
          intro n ks b hp hq
          cases hp
          have hl := cellsEq_len hq
          have e1 : cs.drop n = [] := List.eq_nil_of_length_eq_zero hl.1
          have e2 : ds.drop n = [] := List.eq_nil_of_length_eq_zero hl.2
          rw [e1, e2] at hq
          cases hq
          rfl
        | cons f l ihl =>
          intro n ks b hp hq
          simp only [plainFs] at hp
          split at hp
          · rename_i kf hkf
            rcases condO hp with ⟨hc, hp⟩ | ⟨_, hp⟩
            · simp only [Bool.and_eq_true, bne_iff_ne, ne_eq, beq_iff_eq] at hc
              obtain ⟨⟨hname, hoff⟩, hlen⟩ := hc
              split at hp
              · rename_i kr hkr
                cases hp
                obtain ⟨b1, b2, h1, h2, rfl⟩ := cellsEq_split hq
                rw [List.drop_drop, List.drop_drop] at h2
                have hrest := ihl _ _ _ hkr h2
                obtain ⟨hl1, hl2⟩ := cellsEq_len h1
                -- the two parts
                obtain ⟨df, hdf⟩ : ∃ df, P.underlying f.type = some df := by
                  cases d with
                  | zero => cases hkf
                  | succ d =>
                    simp only [plainT] at hkf
                    split at hkf
                    · exact ⟨_, by assumption⟩
                    · exact ⟨_, by assumption⟩
                    · exact ⟨_, by assumption⟩
                    · cases hkf
                have one : isAggT P f.type = false → kf.length = 1 := by
                  intro hna
                  cases d with
                  | zero => cases hkf
                  | succ d =>
                    simp only [plainT] at hkf
                    split at hkf
                    · cases hkf; rfl
                    · cases hkf; rfl
                    · rename_i hdd
                      simp [isAggT, hdd] at hna
                    · cases hkf
                have hpick : ∀ (zs : List CV), (zs.drop n |>.take kf.length).length = kf.length → ∃ te, pick (P.cellsOf f.type) (isAggT P f.type) (zs.drop n) = some te ∧ te.cells = (zs.drop n).take kf.length ∧ (isAggT P f.type = true → te = .a ((zs.drop n).take kf.length)) ∧ (isAggT P f.type = false → ∃ x, te = .c x) := by
                  intro zs hz
                  rw [← hlen]
                  cases hag : isAggT P f.type with
                  | true =>
                    have : kf.length ≤ (zs.drop n).length := by
                      rw [List.length_take] at hz
                      omega
                    exact ⟨_, by simp only [pick]; rw [decide_eq_true this]; rfl, rfl, fun _ => rfl, fun h => by cases h⟩
                  | false =>
                    have h1 := one hag
                    rw [h1] at hz ⊢
                    cases hzz : zs.drop n with
                    | nil => rw [hzz] at hz; simp at hz
                    | cons x l => exact ⟨.c x, rfl, by simp [TE.cells], (fun h => by cases h), fun _ => ⟨x, rfl⟩⟩
                obtain ⟨te1, hp1, hc1, ha1, hs1⟩ := hpick cs hl1
                obtain ⟨te2, hp2, hc2, ha2, hs2⟩ := hpick ds hl2
                obtain ⟨u1, hu1, hr1⟩ := run_part (xs := xs) hdf ⟨hn, hu⟩ hp1
                obtain ⟨u2, hu2, hr2⟩ := run_part (xs := ys) hdf ⟨hn', hv⟩ hp2
                have hE := ih f.type kf hkf D te1 te2 u1 u2 b1 (by omega) (fun h => ⟨_, _, ha1 h, ha2 h⟩) (fun h => by
                  obtain ⟨x, rfl⟩ := hs1 h
                  obtain ⟨y, rfl⟩ := hs2 h
                  exact ⟨x, y, rfl, rfl⟩) (by rw [hc1, hc2]; exact h1) hr1 hr2
                unfold EqAt at hE
                subst hoff
                simp only [Op.eqFields, ne_eq, hname, not_false_eq_true, if_true, Sem.run_bind, hu1, hu2, Result.andThen_ok, hE]
                cases b1 with
                | true => simpa using hrest
                | false => simp
              · cases hp
            · cases hp
          · cases hp
      exact key fs.toList 0 ks b h (by simpa using heq)
    · cases h
end
end Go.Ab

/- The other operations, but calls. -/
namespace Go.Ab
open Go

section
variable {P : Program} {E : Env} {call : Cfg → Option Out} {c : Cfg} {o : Oper} {G : Gh} {m M : Mem} {w : World}
theorem toList_beq (a b : ByteArray) : (a.toList == b.toList) = decide (a = b) := by
  rw [ByteArray.toList_eq, ByteArray.toList_eq, Bool.eq_iff_iff, beq_iff_eq, decide_eq_true_iff]
  constructor
  · intro h
    exact ByteArray.ext (Array.ext' h)
  · rintro rfl
    rfl
theorem eqKind_b {t : TypeId} (h : (eqKind P t).isB = true) : P.underlying t = some .bool := by
  unfold eqKind at h
  split at h
  · assumption
  · cases h
  · split at h
    · rename_i ks _
      cases hh : P.eqGuardType P.depth t <;> simp [hh, EqK.isB] at h
    · cases h
  · cases h
theorem eqKind_p {t : TypeId} (h : (eqKind P t).isP = true) : ∃ e, P.underlying t = some (.pointer e) := by
  unfold eqKind at h
  split at h
  · cases h
  · exact ⟨_, by assumption⟩
  · split at h
    · rename_i ks _
      cases hh : P.eqGuardType P.depth t <;> simp [hh, EqK.isP] at h
    · cases h
  · cases h
theorem eqKind_s {t : TypeId} {ks : List Bool} (h : eqKind P t = .s ks) : plainT P 8 t = some ks ∧ P.eqGuardType P.depth t = false ∧ isAggT P t = true := by
  unfold eqKind at h
  split at h
  · cases h
  · cases h
  · rename_i fs hd
    split at h
    · rename_i ks' hk
      cases hh : P.eqGuardType P.depth t with
      | true => rw [hh] at h; cases h
      | false =>
        rw [hh] at h
        cases h
        exact ⟨hk, rfl, by simp [isAggT, hd]⟩
    · cases h
  · cases h
theorem equalIn_nn {t e : TypeId} (hd : P.underlying t = some (.pointer e)) (d : Nat) (w : World) : (Op.equalIn (d + 1) t (.pointer none) (.pointer none)).run P w = .ok true w := by simp [Op.equalIn, run_underlying hd]
theorem equalIn_sn {t e : TypeId} (hd : P.underlying t = some (.pointer e)) (d : Nat) (a : Addr) (w : World) : (Op.equalIn (d + 1) t (.pointer (some a)) (.pointer none)).run P w = .ok false w := by simp [Op.equalIn, run_underlying hd]
theorem equalIn_ns {t e : TypeId} (hd : P.underlying t = some (.pointer e)) (d : Nat) (a : Addr) (w : World) : (Op.equalIn (d + 1) t (.pointer none) (.pointer (some a))).run P w = .ok false w := by simp [Op.equalIn, run_underlying hd]
theorem eql_of {t : TypeId} {u v : Value} {b : Bool} (h : (Op.equalIn 10000 t u v).run P w = .ok b w) (h1 : binOp .eql t u v = (do pure (.bool (← Op.equal t u v)))) (h2 : binOp .neq t u v = (do pure (.bool (!(← Op.equal t u v))))) :
    (binOp .eql t u v).run P w = .ok (.bool b) w ∧ (binOp .neq t u v).run P w = .ok (.bool (!b)) w := by
  rw [h1, h2]
  constructor <;> simp only [Op.equal, Op.maxDepth, Sem.run_bind, h, Result.andThen_ok, Sem.run_pure]
/-- Equality. -/
theorem run_aeq {t : TypeId} {x y : TV} {b : Bool} (h : aeq (eqKind P t) x y = some b) {u v : Value} (hx : TVR G m w x u) (hy : TVR G m w y v) (op : BinOp) (a₁ a₂ : Operand) :
    (eqGuard op t a₁ a₂ u v).run P w = .ok () w ∧ (binOp .eql t u v).run P w = .ok (.bool b) w ∧ (binOp .neq t u v).run P w = .ok (.bool (!b)) w := by
  unfold aeq at h
  split at h
  · unfold cellEq at h
    split at h
    · obtain rfl := tv_pc hx
      obtain rfl := tv_pc hy
      unfold scalarEq at h
      split at h
      · rcases condO h with ⟨hk, h⟩ | ⟨_, h⟩
        · cases h
          obtain rfl := of_decide_eq_true hk
          refine ⟨by cases op <;> simp [eqGuard], by simp [binOp, Op.intCmp], by simp [binOp, Op.intCmp, bne]⟩
        · cases h
      · rcases condO h with ⟨hk, h⟩ | ⟨_, h⟩
        · cases h
          have hd := eqKind_b hk
          refine ⟨by cases op <;> simp [eqGuard], eql_of (run_equalIn_bool' (P := P) w 9999 t _ _ hd) rfl rfl⟩
        · cases h
      · cases h
        refine ⟨by cases op <;> simp [eqGuard], ?_, ?_⟩ <;> simp [binOp, Op.stringOp, toList_beq]
      · rcases condO h with ⟨hk, h⟩ | ⟨_, h⟩
        · cases h
          obtain ⟨e, hd⟩ := eqKind_p hk
          exact ⟨by cases op <;> simp [eqGuard], eql_of (equalIn_nn hd 9999 w) rfl rfl⟩
        · cases h
      · cases h
    · rcases condO h with ⟨hk, h⟩ | ⟨_, h⟩
      · cases h
        obtain ⟨e, hd⟩ := eqKind_p hk
        obtain rfl := tv_pc hy
        cases te_c (tv_e hx) with
        | ref => exact ⟨by cases op <;> simp [eqGuard], eql_of (equalIn_sn hd 9999 _ w) rfl rfl⟩
      · cases h
    · rcases condO h with ⟨hk, h⟩ | ⟨_, h⟩
      · cases h
        obtain ⟨e, hd⟩ := eqKind_p hk
        obtain rfl := tv_pc hx
        cases te_c (tv_e hy) with
        | ref => exact ⟨by cases op <;> simp [eqGuard], eql_of (equalIn_ns hd 9999 _ w) rfl rfl⟩
      · cases h
    · rcases condO h with ⟨hk, h⟩ | ⟨_, h⟩
      · cases h
        obtain ⟨e, hd⟩ := eqKind_p hk
        obtain rfl := tv_pc hy
        cases te_c (tv_e hx) with
        | ip => exact ⟨by cases op <;> simp [eqGuard], eql_of (equalIn_sn hd 9999 _ w) rfl rfl⟩
      · cases h
    · cases h
  · split at h
    · rename_i ks hk
      obtain ⟨hp, hg, ha⟩ := eqKind_s hk
      have hE := eq_plain (G := G) (m := m) (w := w) 8 t ks hp 10000 (.a _) (.a _) u v b (by omega) (fun _ => ⟨_, _, rfl, rfl⟩) (fun h => by rw [ha] at h; cases h) h (tv_e hx) (tv_e hy)
      unfold EqAt at hE
      cases tv_e hx with
      | a =>
      cases tv_e hy with
      | a =>
      refine ⟨run_eqGuard_agg w op t a₁ a₂ _ _ hg, ?_, ?_⟩
      · rw [run_eql_struct, hE]; rfl
      · rw [run_neq_struct, hE]; rfl
    · cases h
  · cases h
theorem run_acmp {t : TypeId} {op : BinOp} {x y : TV} {b : Bool} (h : acmp (eqKind P t) op x y = some b) {u v : Value} (hx : TVR G m w x u) (hy : TVR G m w y v) (a₁ a₂ : Operand) :
    (eqGuard op t a₁ a₂ u v).run P w = .ok () w ∧ (binOp op t u v).run P w = .ok (.bool b) w := by
  unfold acmp at h
  split at h
  · obtain ⟨h1, h2, _⟩ := run_aeq h hx hy .eql a₁ a₂
    exact ⟨h1, h2⟩
  · split at h
    · rename_i b' hb'
      cases h
      obtain ⟨h1, _, h3⟩ := run_aeq hb' hx hy .neq a₁ a₂
      exact ⟨h1, h3⟩
    · cases h
  · rename_i hne1 hne2
    have hg : (eqGuard op t a₁ a₂ u v).run P w = .ok () w := by
      cases op <;> first | (exact absurd rfl hne1) | (exact absurd rfl hne2) | simp [eqGuard]
    refine ⟨hg, ?_⟩
    split at h
    · obtain rfl := tv_pc hx
      obtain rfl := tv_pc hy
      rcases condO h with ⟨hk, h2⟩ | ⟨_, h2⟩
      · clear h
        obtain rfl := of_decide_eq_true hk
        split at h2 <;> first | (cases h2; simp [binOp, Op.intCmp]; done) | cases h2
      · cases h2
    · obtain rfl := tv_pc hx
      obtain rfl := tv_pc hy
      rename_i p q
      have e1 := toList_beq p q
      have e2 := ByteArray.toList_eq p
      have e3 := ByteArray.toList_eq q
      rw [← e2, ← e3] at h
      split at h <;> first | (cases h; simp [binOp, Op.stringOp, e1]; done) | cases h
    · cases h
theorem op_binOp {op : BinOp} {t t' : TypeId} {x y : Operand} {r : OpOut} (ho : o.op = .binOp op t x y t') (h : opR E call c o = some r) : OpSound E.P c o r := by
  unfold opR opK at h
  rw [ho] at h
  dsimp only at h
  split at h
  · obtain ⟨b, hb, h2⟩ := bindR h
    cases h2
    refine .pure rfl rfl fun G M w a hR hx ha => ?_
    obtain ⟨h1, h2⟩ := run_acmp hb (hx x (by simp [ho, Op.operands])) (hx y (by simp [ho, Op.operands])) x y
    exact ⟨_, mkB_r b, by simp [execOp, ho, h1, h2]⟩
  · rename_i hcmp
    have hg : ∀ (w : World) (u v : Value), (eqGuard op t x y u v).run E.P w = .ok () w := by
      intro w u v
      cases op <;> first | (cases hcmp; done) | simp [eqGuard]
    split at h
    · rename_i kd op' hd
      obtain ⟨b, hb, h2⟩ := bindR h
      cases h2
      refine .pure rfl rfl fun G M w a hR hx ha => ?_
      exact ⟨_, mkI_r _ b, by simp [execOp, ho, hg, run_aarith hb (hx x (by simp [ho, Op.operands])) (hx y (by simp [ho, Op.operands]))]⟩
    · rename_i hd
      obtain ⟨b, hb, h2⟩ := bindR h
      cases h2
      refine .pure rfl rfl fun G M w a hR hx ha => ?_
      obtain ⟨p, q, hp, hq, rfl, hsz⟩ := run_acat hb (hx x (by simp [ho, Op.operands])) (hx y (by simp [ho, Op.operands]))
      have hsz' : ¬ (9223372036854775807 < ((p.size : Int) + (q.size : Int))) := by omega
      exact ⟨_, mkS_r _, by simp [execOp, ho, hg, hp, hq, binOp, Op.stringOp, hsz']⟩
    · cases h
theorem op_unOp {op : UnOp} {t : TypeId} {x : Operand} {r : OpOut} (ho : o.op = .unOp op t x) (h : opR E call c o = some r) : OpSound E.P c o r := by
  unfold opR opK at h
  rw [ho] at h
  dsimp only at h
  split at h
  · obtain ⟨b, hb, h2⟩ := bindR h
    cases h2
    refine .pure rfl rfl fun G M w a hR hx ha => ?_
    have hx := hx x (by simp [ho, Op.operands])
    unfold anot at hb
    split at hb
    · rename_i b' hb'
      cases hb
      obtain ⟨e, _⟩ := asB_v hb' hx
      exact ⟨_, mkB_r _, by simp [execOp, ho, e, Op.unary]⟩
    · cases hb
  · obtain ⟨b, hb, h2⟩ := bindR h
    cases h2
    refine .pure rfl rfl fun G M w a hR hx ha => ?_
    have hx := hx x (by simp [ho, Op.operands])
    unfold aneg at hb
    split at hb
    · rename_i e
      rw [e] at hx
      have := tv_pc hx
      rcases condO hb with ⟨hk, hb⟩ | ⟨_, hb⟩
      · cases hb
        obtain rfl := of_decide_eq_true hk
        exact ⟨_, mkI_r _ _, by simp [execOp, ho, this, Op.unary, Op.intArith]⟩
      · cases hb
    · cases hb
  · obtain ⟨b, hb, h2⟩ := bindR h
    cases h2
    refine .pure rfl rfl fun G M w a hR hx ha => ?_
    have hx := hx x (by simp [ho, Op.operands])
    unfold acom at hb
    split at hb
    · rename_i e
      rw [e] at hx
      have := tv_pc hx
      rcases condO hb with ⟨hk, hb⟩ | ⟨_, hb⟩
      · simp only [abits, Option.some.injEq] at hb
        subst hb
        obtain rfl := of_decide_eq_true hk
        exact ⟨_, mkI_r _ _, by
          have e2 : execOp a.eval o = (do pure (.value (← Op.unary .xor (a.eval x)))) := by unfold execOp; rw [ho]
          rw [e2, this]
          rfl⟩
      · cases hb
    · cases hb
  · cases h
theorem bytes_r (s : ByteArray) (ok : Nat → Prop) (w : World) (g cap : Nat) (cs : Array Value) (ty : TypeId) (fr : Nat × Nat) (hg : w.heap[g]? = some (.cells cs ty fr)) (hok : ok g) (hcap : s.size ≤ cap) (h : ∀ (i : Nat) (b : UInt8), s.data[i]? = some b → cs[i]? = some (.int .u8 (b.toNat : Int))) :
    PR ok w (bytesP s.data.toList) (.slice (some (cellAt g 0)) s.size cap) := by
  refine .sl _ _ _ cap 1 (fun i _ => (cs[i]?).getD undef) (by rw [List.length_map, Array.length_toList]; rfl) hcap (fun _ => ⟨g, 0, rfl, hok, fun i e he => ?_⟩) fun i e j x he hj => ?_
  · simp only [List.getElem?_map, Option.map_eq_some_iff] at he
    obtain ⟨b, hb, rfl⟩ := he
    refine ⟨rfl, fun j x hj => ?_⟩
    cases j with
    | zero =>
      have := h i b (by simpa using hb)
      simp [World.cell?, hg, this]
    | succ j => simp [byteP] at hj
  · simp only [List.getElem?_map, Option.map_eq_some_iff] at he
    obtain ⟨b, hb, rfl⟩ := he
    cases j with
    | zero =>
      cases hj
      rw [h i b (by simpa using hb)]
      exact .c _ rfl
    | succ j => simp [byteP] at hj
theorem toBytes_spec : ∀ {es : List (List CV)} {bs : List UInt8}, toBytes es = some bs → es.length = bs.length ∧ ∀ (i : Nat) (e : List CV), es[i]? = some e → ∃ n, e = [.p (.c (.int .u8 n))] ∧ bs[i]? = some (UInt8.ofNat n.toNat)
  | [], bs, h => by
    cases h
    exact ⟨rfl, fun i e he => by simp at he⟩
  | e :: es, bs, h => by
    simp only [toBytes] at h
    split at h
    · rename_i b hb
      split at h
      · rename_i bs' hbs'
        cases h
        obtain ⟨h1, h2⟩ := toBytes_spec hbs'
        refine ⟨by simp [h1], fun i e' he' => ?_⟩
        cases i with
        | zero =>
          cases he'
          unfold toByte at hb
          split at hb
          · cases hb
            exact ⟨_, rfl, rfl⟩
          · cases hb
        | succ i => exact h2 i e' (by simpa using he')
      · cases h
    · cases h
theorem elems_notStr {x : TV} {u : Value} (hx : TVR G m w x u) {z : ByteArray} (h : u = .string z) : ∀ {es : List (List CV)}, elems x m = some es → x = mkS z := by
  intro es hes
  subst h
  unfold elems at hes
  split at hes
  · cases te_c (tv_e hx)
  · cases te_c (tv_e hx) with | p h => cases h
  · cases te_c (tv_e hx)
  · cases te_c (tv_e hx)
  · have := tv_pc hx
    cases this
    rfl
  · cases hes
theorem foldl_push : ∀ (ns : List Int) (acc : ByteArray), ns.foldl (fun r n => r.push (UInt8.ofNat n.toNat)) acc = ⟨acc.data ++ (ns.map fun n => UInt8.ofNat n.toNat).toArray⟩
  | [], acc => by simp
  | n :: ns, acc => by
    rw [List.foldl_cons, foldl_push ns]
    congr 1
    simp [ByteArray.push]
/-- The text of some bytes. -/
theorem run_abytes (hR : Rel G M w) {x : TV} {s : ByteArray} (h : abytesOf x M = some s) {u : Value} (hx : TVR G M w x u) : (∃ A l c, u = .slice A l c) ∧ (Conv.bytesToString u).run P w = .ok (.string s) w := by
  have hs : ∀ z, u ≠ .string z := by
    intro z hz
    unfold abytesOf at h
    split at h
    · rename_i es hes
      rw [elems_notStr hx hz hes] at h
      split at h <;> cases h
    · cases h
  unfold abytesOf at h
  split at h
  · rename_i es hes
    split at h
    · rename_i bs hbs
      rcases condO h with ⟨_, h2⟩ | ⟨_, h2⟩
      · cases h2
      clear h
      cases h2
      obtain ⟨hl, hb⟩ := toBytes_spec hbs
      cases elems_holds hR hes hx with
      | str z => exact absurd rfl (hs z)
      | nil A cap he =>
        subst he
        have h0 : bs = [] := List.eq_nil_of_length_eq_zero (by simpa using hl.symm)
        subst h0
        refine ⟨⟨_, _, _, rfl⟩, ?_⟩
        cases A with
        | none => simp [Conv.bytesToString]; rfl
        | some a =>
          have := run_bytesToString (P := P) w a 0 cap [] (run_loadCells (P := P) w a 0 (fun _ => undef) fun j hj => absurd hj (by omega))
          rw [this]
          rfl
      | row g o' k cap hc hrow =>
        have key : ∀ (i : Nat), i < es.length → ∃ n : Int, w.cell? (cellAt g (o' + i)) = some (.int .u8 n) ∧ bs[i]? = some (UInt8.ofNat n.toNat) := by
          intro i hi
          obtain ⟨n, he, hbn⟩ := hb i _ (List.getElem?_eq_getElem hi)
          obtain ⟨h1, h2⟩ := hrow i _ (List.getElem?_eq_getElem hi)
          have hk : k = 1 := by rw [← h1, he]; rfl
          subst hk
          obtain ⟨v, hv, hr⟩ := h2 0 (.p (.c (.int .u8 n))) (by rw [he]; rfl)
          rw [cr_pc hr] at hv
          exact ⟨n, by simpa using hv, hbn⟩
        let f : Nat → Int := fun i => if h : i < es.length then (key i h).choose else 0
        have hf : ∀ i, i < es.length → w.cell? (cellAt g (o' + i)) = some (.int .u8 (f i)) ∧ bs[i]? = some (UInt8.ofNat (f i).toNat) := by
          intro i hi
          simp only [f, hi, dif_pos]
          exact (key i hi).choose_spec
        have hload := run_loadCells (P := P) w (cellAt g o') es.length (fun i => .int .u8 (f i)) (fun j hj => by rw [add_cellAt]; exact (hf j hj).1)
        have := run_bytesToString (P := P) w (cellAt g o') es.length cap ((List.range es.length).map f) (by rw [hload]; simp [Function.comp_def])
        refine ⟨⟨_, _, _, rfl⟩, ?_⟩
        rw [this, foldl_push]
        congr 3
        apply Array.ext'
        simp only [ByteArray.empty]
        refine List.ext_getElem? fun i => ?_
        by_cases hi : i < es.length
        · simp [hi, (hf i hi).2]
        · simp [hi]
          omega
    · cases h
  · cases h
theorem run_strBytes {s d e : TypeId} (w : World) (hs : P.underlying s = some .string) (hd : P.underlying d = some (.slice e)) (he : P.underlying e = some (.int .u8)) (b : ByteArray) :
    ∃ w' cap cs ty fr, (convert s d (.string b)).run P w = .ok (.slice (some (cellAt w.heap.size 0)) b.size cap) w' ∧ w'.heap[w.heap.size]? = some (.cells cs ty fr) ∧ b.size ≤ cap ∧ (∀ (i : Nat) (x : UInt8), b.data[i]? = some x → cs[i]? = some (.int .u8 (x.toNat : Int))) ∧ w.grownBy w' none := by
  have hcap := grownCap_ge w b.size 0 e
  let CS : Array Value := (b.data.map fun x => Value.int .u8 x.toNat) ++ Array.replicate (grownCap w b.size 0 e - b.size) (.int .u8 0)
  have hrun : (convert s d (.string b)).run P w = .ok (.slice (some (cellAt w.heap.size 0)) b.size (grownCap w b.size 0 e)) ((w.drew.alloc (.cells CS e)).freeze ⟨w.heap.size, CS.size, none⟩ 1) := by
    have hal : (w.drew.alloc (.cells CS e)).heap[w.heap.size]? = some (.cells CS e (0, 0)) := heap_alloc_new w.drew _
    have hsh : (w.drew.alloc (.cells CS e)).shape? w.heap.size = some (e, CS.size) := by simp only [World.shape?, hal]
    simp [convert, run_underlying hs, run_underlying hd, run_underlying he, Conv.stringToBytes, Question.forced, newRow, markStringish]
    show ((Sem.run P (match (w.drew.alloc (.cells CS e)).shape? w.heap.size with | some (_, n) => freeze ⟨w.heap.size, n, none⟩ 1 | _ => pure ()) (w.drew.alloc (.cells CS e))).andThen fun _ w' => Result.ok (Value.slice (some (cellAt w.heap.size 0)) b.size (grownCap w b.size 0 e)) w') = _
    rw [hsh]
    rfl
  have hal : (w.drew.alloc (.cells CS e)).heap[w.heap.size]? = some (.cells CS e (0, 0)) := heap_alloc_new w.drew _
  have hgr := World.grownBy_alloc w.drew (.cells CS e) none
  refine ⟨_, _, CS, e, (CS.size, CS.size + 1), hrun, ?_, hcap, fun i x hi => ?_, ⟨hgr.os, hgr.tape, hgr.output, ?_, fun k hk hne => ?_⟩⟩
  · simp only [World.freeze]
    rw [if_neg (by decide)]
    simp only [Array.getElem?_modify, hal, if_true, Option.map_some]
    rfl
  · have : i < b.data.size := (Array.getElem?_eq_some_iff.1 hi).1
    simp only [CS]
    rw [Array.getElem?_append_left (by simpa using this)]
    simp [hi]
  · simp [World.freeze]
  · simp only [World.freeze]
    rw [if_neg (by decide)]
    simp only [Array.getElem?_modify]
    rw [if_neg (by omega)]
    exact hgr.block k hk hne
theorem op_convert {s d : TypeId} {x : Operand} {r : OpOut} (ho : o.op = .convert s d x) (h : opR E call c o = some r) : OpSound E.P c o r := by
  unfold opR opK at h
  rw [ho] at h
  dsimp only at h
  split at h
  · rename_i hs hd
    obtain ⟨b, hb, h2⟩ := bindR h
    cases h2
    refine .pure rfl rfl fun G M w a hR hx ha => ?_
    obtain ⟨k', n', e, rfl⟩ := run_aconvI hb (hx x (by simp [ho, Op.operands]))
    exact ⟨_, mkI_r _ _, by simp [execOp, ho, e, convert, run_underlying hs, run_underlying hd, Conv.intToInt]⟩
  · rename_i hs hd
    obtain ⟨b, hb, h2⟩ := bindR h
    cases h2
    refine .pure rfl rfl fun G M w a hR hx ha => ?_
    obtain ⟨e, _⟩ := asS_v hb (hx x (by simp [ho, Op.operands]))
    exact ⟨_, mkS_r _, by simp [execOp, ho, e, convert, run_underlying hs, run_underlying hd]⟩
  · rename_i e hs hd
    split at h
    · rename_i he
      obtain ⟨b, hb, h2⟩ := bindR h
      clear h
      cases h2
      exact
        { keeps := .refl _
          miss := fun _ _ _ _ => rfl
          al := fun _ _ => rfl
          wa := .inl rfl
          ids := fun _ _ _ _ _ _ h => by simp [Foot.nil] at h
          run := fun Q G M w a hR hx ha _ next hn => by
            obtain ⟨ex, _⟩ := asS_v hb (hx x (by simp [ho, Op.operands]))
            unfold Oper.wp
            obtain ⟨w', cap, cs, ty, fr, hrun, hg, hcap, hc, hgr⟩ := run_strBytes (P := E.P) w hs hd he b
            have : (execOp a.eval o).run E.P w = .ok (.value (.slice (some (cellAt w.heap.size 0)) b.size cap)) w' := by simp [execOp, ho, ex, hrun]
            rw [this]
            have hev := Ev.junk (G := G) (m := M) hgr
            refine hn G M w' _ (.same ha) hev (hR.junk hgr) (.e (.c (.p ?_)))
            refine bytes_r b _ w' _ cap cs ty fr hg ⟨(Array.getElem?_eq_some_iff.1 hg).1, fun ⟨i, p, hi⟩ => ?_, fun hh => ?_⟩ hcap hc
            · have := hR.lt _ _ _ hi
              omega
            · have := hR.hlt _ hh
              omega }
    · cases h
  · rename_i e hs hd
    split at h
    · rename_i he
      obtain ⟨b, hb, h2⟩ := bindR h
      cases h2
      refine .pure rfl rfl (fun G M w a hR hx ha => ?_) (fun id hid => ⟨x, by simp [ho, Op.operands], by simpa [Foot.reads, eq_comm] using hid⟩)
      have hx := hx x (by simp [ho, Op.operands])
      have hbM : abytesOf (ev c.tmps x) M = some b := by
        unfold abytesOf at hb ⊢
        split at hb
        · rename_i es hes
          rw [elems_up hes (agree_up ha (.inl (by simp [Foot.reads])))]
          exact hb
        · cases hb
      obtain ⟨⟨A, l, cp, e1⟩, e2⟩ := run_abytes (P := E.P) hR hbM hx
      rw [e1] at e2
      exact ⟨_, mkS_r _, by simp [execOp, ho, e1, run_convert_bytes_string w s d e A l cp hs he hd, e2]⟩
    · cases h
  · cases h
end
end Go.Ab

/- Functions, slices, fields, literals. -/
namespace Go.Ab
open Go

section
variable {P : Program} {E : Env} {call : Cfg → Option Out} {c : Cfg} {o : Oper} {G : Gh} {m M : Mem} {w : World}
theorem takeC_v : ∀ {l : List TV} {k : List CV → Option OpOut} {r : OpOut}, takeC (resA call) l k = some r → ∃ xs, l = xs.map (fun x => TV.e (.c x)) ∧ k xs = some r
  | [], k, r, h => ⟨[], rfl, h⟩
  | x :: l, k, r, h => by
    obtain ⟨y, hy, h2⟩ := bindR h
    obtain ⟨xs, rfl, h3⟩ := takeC_v h2
    exact ⟨y :: xs, by simp [asC_v hy], h3⟩
theorem takeE_v : ∀ {l : List TV} {k : List TE → Option OpOut} {r : OpOut}, takeE (resA call) l k = some r → ∃ xs, l = xs.map TV.e ∧ k xs = some r
  | [], k, r, h => ⟨[], rfl, h⟩
  | x :: l, k, r, h => by
    obtain ⟨y, hy, h2⟩ := bindR h
    obtain ⟨xs, rfl, h3⟩ := takeE_v h2
    exact ⟨y :: xs, by simp [asE_v hy], h3⟩
/-- What some operands hold. -/
theorem opsR {l : List TV} {a : Act} {xs : Array Operand} (hx : ∀ x ∈ xs.toList, TVR G M w (ev l x) (a.eval x)) : ∀ (i : Nat) (x : TV) (v : Value), (xs.toList.map (ev l))[i]? = some x → (xs.map a.eval)[i]? = some v → TVR G M w x v := by
  intro i x v hi hv
  simp only [List.getElem?_map, Option.map_eq_some_iff] at hi
  obtain ⟨y, hy, rfl⟩ := hi
  simp only [Array.getElem?_map, Option.map_eq_some_iff] at hv
  obtain ⟨z, hz, rfl⟩ := hv
  rw [Array.getElem?_toList, hz] at hy
  cases hy
  exact hx _ (Array.mem_toList_iff.2 (Array.mem_of_getElem? hz))
theorem op_makeFunc {g : FuncId} {first caps : Array Operand} {r : OpOut} (ho : o.op = .makeFunc (.func g) first caps) (h : opR E call c o = some r) : OpSound E.P c o r := by
  unfold opR opK at h
  rw [ho] at h
  dsimp only at h
  obtain ⟨fs, hfs, h2⟩ := takeC_v h
  obtain ⟨cs, hcs, h3⟩ := takeC_v h2
  clear h h2
  cases h3
  refine .pure rfl rfl fun G M w a hR hx ha => ?_
  have hf := opsR (G := G) (M := M) (w := w) (l := c.tmps) (a := a) (xs := first) fun x hx' => hx x (by simp [ho, Op.operands, Array.mem_toList_iff.1 hx'])
  have hc := opsR (G := G) (M := M) (w := w) (l := c.tmps) (a := a) (xs := caps) fun x hx' => hx x (by simp [ho, Op.operands, Array.mem_toList_iff.1 hx'])
  rw [hfs] at hf
  rw [hcs] at hc
  have l1 := congrArg List.length hfs
  have l2 := congrArg List.length hcs
  simp only [List.length_map, Array.length_toList] at l1 l2
  refine ⟨.func (.func g) (first.map a.eval) (caps.map a.eval), .e (.c (.clo (by simp [l1]) (by simp [l2]) (fun i x v hi hv => ?_) fun i x v hi hv => ?_)), by simp [execOp, ho, Instr.makeFunc]⟩
  · exact te_c (tv_e (hf i _ v (by simp [hi]) hv))
  · exact te_c (tv_e (hc i _ v (by simp [hi]) hv))
theorem op_makeInterface {t : TypeId} {x : Operand} {r : OpOut} (ho : o.op = .makeInterface t x) (h : opR E call c o = some r) : OpSound E.P c o r := by
  unfold opR opK at h
  rw [ho] at h
  dsimp only at h
  split at h
  · rename_i hcon
    obtain ⟨v, hv, h2⟩ := bindR h
    clear h
    cases h2
    refine .pure rfl rfl fun G M w a hR hx ha => ?_
    have hx := hx x (by simp [ho, Op.operands])
    have hrun : ∀ u, (Instr.makeInterface t u).run E.P w = .ok (.iface t u) w := fun u => run_makeInterface w t u hcon
    refine ⟨.iface t (a.eval x), ?_, by simp [execOp, ho, hrun]⟩
    unfold aiface at hv
    split at hv
    · rename_i e
      cases hv
      rw [e] at hx
      generalize a.eval x = u at hx ⊢
      cases tv_e hx with
      | @a _ vs hn hvs =>
        have : vs = #[] := by
          apply Array.eq_empty_of_size_eq_zero
          simpa using hn.symm
        subst this
        exact .e (.c (.p (.c _ rfl)))
    · rename_i e
      cases hv
      rw [e] at hx
      rw [tv_pc hx]
      exact .e (.c (.p (.c _ rfl)))
    · cases hv
  · cases h
theorem op_panic {x : Operand} {r : OpOut} (ho : o.op = .panic x) (h : opR E call c o = some r) : OpSound E.P c o r := by
  unfold opR opK at h
  rw [ho] at h
  dsimp only at h
  obtain ⟨v, hv, h2⟩ := bindR h
  clear h
  rcases condR h2 with ⟨_, h3⟩ | ⟨hlog, h3⟩
  · cases h3
  cases h3
  refine ⟨hlog, .refl _, fun Q G w a hR hx next hn => ?_⟩
  have hx := hx x (by simp [ho, Op.operands])
  unfold apanic at hv
  split at hv
  · rename_i t v' e
    cases hv
    rw [e] at hx
    have := tv_pc hx
    unfold Oper.wp
    have hrun : (execOp a.eval o).run E.P w = .halt (.panic (.iface t v')) w := by
      simp [execOp, ho, this, Instr.panic, goPanic]
    rw [hrun]
    exact hn G w _ rfl (.refl _ _ _) hR
  · cases hv
theorem op_field {t : TypeId} {x : Operand} {i : Nat} {r : OpOut} (ho : o.op = .field t x i) (h : opR E call c o = some r) : OpSound E.P c o r := by
  unfold opR opK at h
  rw [ho] at h
  dsimp only at h
  split at h
  · rename_i off n fs hpl hd
    split at h
    · rename_i f hf
      obtain ⟨te, hte, h2⟩ := bindR h
      obtain ⟨h3, d, hdf⟩ := typedK_v h2
      clear h h2
      cases h3
      refine .pure rfl rfl fun G M w a hR hx ha => ?_
      have hx := hx x (by simp [ho, Op.operands])
      simp only [placeOf, hd, hf, Option.some.injEq, Prod.mk.injEq] at hpl
      obtain ⟨rfl, hsz⟩ := hpl
      unfold afieldV at hte
      split at hte
      · rename_i cs e
        rw [e] at hx
        generalize hu : a.eval x = u at hx
        cases tv_e hx with
        | a hn hcs =>
          have hsz' : n + 1 = E.P.cellsOf f.type := hsz.symm
          rw [hsz'] at hte
          obtain ⟨u, hu', hr⟩ := run_part (P := E.P) (w := w) hdf ⟨hn, hcs⟩ hte
          refine ⟨u, .e hr, ?_⟩
          simp [execOp, ho, hu, Instr.field, run_underlying hd, hf, asAgg, hu']
      · cases hte
    · cases h
  · cases h
/-- The address of a part. -/
theorem afield_r {off : Nat} {x : TV} {v : CV} (h : afield off x = some v) {u : Value} (hx : TVR G M w x u) : ∃ A : Addr, u = .pointer (some A) ∧ CR G M w v (.pointer (some (A.add off))) := by
  unfold afield at h
  split at h
  · cases h
    cases te_c (tv_e hx) with
    | @ref _ _ _ _ aa ob hob hl hv hg =>
      refine ⟨aa, rfl, .ref ob hob hl hv fun he => ?_⟩
      obtain ⟨g, b, hat, rfl⟩ := hg he
      exact ⟨g, b, hat, by rw [add_cellAt, Nat.add_assoc]⟩
  · cases h
    cases te_c (tv_e hx) with
    | ip b o' cv hb hc hp =>
      refine ⟨_, rfl, ?_⟩
      rw [add_cellAt, Nat.add_assoc]
      exact .ip b o' cv hb hc hp
  · cases h
theorem pr_idx {es : List (List PV)} {v : Value} (h : PR (G.ok w) w (.sl es) v) {i : Int} (h0 : 0 ≤ i) {e : List PV} (he : es[i.toNat]? = some e) {k : Nat} (hk : e.length = k) :
    ∃ (A : Option Addr) (len cap : Nat), v = .slice A len cap ∧ 0 ≤ i ∧ i < (len : Int) ∧ ∃ B, A = some B ∧ CR G M w (.ip e 0) (.pointer (some (B.add (i.toNat * k)))) := by
  cases h with
  | sl _ A n cap k' cv hn hcap hA hp =>
    have hlt := (List.getElem?_eq_some_iff.1 he).1
    obtain ⟨b, o, rfl, hb, hc⟩ := hA (by omega)
    obtain ⟨h1, h2⟩ := hc _ e he
    obtain rfl : k' = k := by omega
    refine ⟨_, n, cap, rfl, h0, by omega, _, rfl, ?_⟩
    rw [add_cellAt]
    have := CR.ip (G := G) (m := M) (w := w) (cs := e) (off := 0) b (o + i.toNat * k') (cv i.toNat) hb (fun j x hj => by rw [Nat.add_assoc]; exact h2 j x hj) fun j x hj => hp _ e j x he hj
    exact this
theorem op_fieldAddr {t : TypeId} {x : Operand} {i : Nat} {r : OpOut} (ho : o.op = .fieldAddr t x i) (h : opR E call c o = some r) : OpSound E.P c o r := by
  unfold opR opK at h
  rw [ho] at h
  dsimp only at h
  split at h
  · rename_i off n fs hpl hd
    obtain ⟨v, hv, h2⟩ := bindR h
    clear h
    cases h2
    refine .pure rfl rfl fun G M w a hR hx ha => ?_
    have hx := hx x (by simp [ho, Op.operands])
    simp only [placeOf, hd] at hpl
    split at hpl
    · rename_i f hf
      simp only [Option.some.injEq, Prod.mk.injEq] at hpl
      obtain ⟨rfl, hsz⟩ := hpl
      have hplace : ∀ (a : Addr), (Instr.fieldAt t (.pointer (some a)) i).run E.P w = .ok (.pointer (some (a.add f.offset))) w := by
        intro a
        have hne : ∃ inf, E.P.info? f.type = some inf ∧ inf.size = n + 1 := by
          unfold Program.cellsOf at hsz
          cases hi : E.P.info? f.type with
          | none => rw [hi] at hsz; simp at hsz
          | some inf => rw [hi] at hsz; exact ⟨inf, rfl, by simpa using hsz⟩
        obtain ⟨inf, hinf, hs⟩ := hne
        simp [Instr.fieldAt, Instr.sureAddr, run_underlying hd, hf, fieldPlace, sizeOf, typeInfo, hinf, hs]
      obtain ⟨A, hu, hr⟩ := afield_r hv hx
      exact ⟨_, .e (.c hr), by simp [execOp, ho, hu, hplace]⟩
    · cases hpl
  · cases h
theorem hasK_v {k : Nat} {id : Nat} {o : AObj} {ft : Foot} {m' : Mem} (h : hasK k m id = true) (ha : Agree ft m m' M) (ho : M[id]? = some o) (hl : o.live = true) : o.k = k := by
  unfold hasK at h
  split at h
  · rename_i o' ho'
    rw [ha.ks id o' o ho' ho hl]
    simpa using h
  · cases h
/-- The address of an element. -/
theorem aidx_r {k : Nat} {x : TV} {i : Int} {v : CV} {ft : Foot} {m' : Mem} (h : aidx k x i m = some v) (ha : Agree ft m m' M) {u : Value} (hx : TVR G M w x u) :
    ∃ (A : Option Addr) (len cap : Nat), u = .slice A len cap ∧ 0 ≤ i ∧ i < (len : Int) ∧ ∃ B, A = some B ∧ CR G M w v (.pointer (some (B.add (i.toNat * k)))) := by
  unfold aidx at h
  split at h
  · rename_i id ver off len
    rcases condO h with ⟨hc, h2⟩ | ⟨_, h2⟩
    · cases h2
      simp only [Bool.and_eq_true, decide_eq_true_eq] at hc
      obtain ⟨⟨h0, h1⟩, hk⟩ := hc
      cases te_c (tv_e hx) with
      | oref o ho hl hv hcap hg =>
        refine ⟨_, len, _, rfl, h0, h1, _, rfl, .ref o ho hl hv fun he => ?_⟩
        obtain ⟨g, b, hat, hA, _⟩ := hg he
        refine ⟨g, b, hat, ?_⟩
        rw [hA (by omega), add_cellAt, ← hasK_v hk ha ho hl, Nat.add_zero, Nat.add_mul, Nat.add_assoc]
    · cases h2
  · rename_i id ver off len
    rcases condO h with ⟨hc, h2⟩ | ⟨_, h2⟩
    · cases h2
      simp only [Bool.and_eq_true, decide_eq_true_eq] at hc
      obtain ⟨⟨h0, h1⟩, hk⟩ := hc
      cases te_c (tv_e hx) with
      | toref o ho hl hv hg =>
        refine ⟨_, len, _, rfl, h0, h1, _, rfl, .ref o ho hl hv fun he => ?_⟩
        obtain ⟨g, b, hat, hA⟩ := hg he
        refine ⟨g, b, hat, ?_⟩
        rw [hA (by omega), add_cellAt, ← hasK_v hk ha ho hl, Nat.add_zero, Nat.add_mul, Nat.add_assoc]
    · cases h2
  · rename_i es
    rcases condO h with ⟨h0, h2⟩ | ⟨_, h2⟩
    · split at h2
      · rename_i e he
        rcases condO h2 with ⟨hk, h3⟩ | ⟨_, h3⟩
        · cases h3
          cases te_c (tv_e hx) with
          | p hp =>
            exact pr_idx hp (of_decide_eq_true h0) he (by simpa using hk)
        · cases h3
      · cases h2
    · cases h2
  · rename_i es
    rcases condO h with ⟨h0, h2⟩ | ⟨_, h2⟩
    · split at h2
      · rename_i e he
        rcases condO h2 with ⟨hk, h3⟩ | ⟨_, h3⟩
        · cases h3
          cases te_c (tv_e hx) with
          | tsl hp => exact pr_idx hp (of_decide_eq_true h0) he (by simpa using hk)
        · cases h3
      · cases h2
    · cases h2
  · cases h
theorem op_indexAddr {t : TypeId} {x y : Operand} {r : OpOut} (ho : o.op = .indexAddr t x y) (h : opR E call c o = some r) : OpSound E.P c o r := by
  unfold opR opK at h
  rw [ho] at h
  dsimp only at h
  obtain ⟨i, hi, h2⟩ := bindR h
  clear h
  split at h2
  · rename_i e hd
    obtain ⟨inf, hinf, h3⟩ := bindR h2
    obtain ⟨v, hv, h4⟩ := bindR h3
    clear h2 h3
    cases h4
    refine .pure rfl rfl fun G M w a hR hx ha => ?_
    obtain ⟨ki, hyv, _⟩ := asI_v hi (hx y (by simp [ho, Op.operands]))
    have hx := hx x (by simp [ho, Op.operands])
    have hs : E.P.cellsOf e = inf.size := by simp [Program.cellsOf, hinf]
    obtain ⟨A, len, cap, hu, h0, h1, B, rfl, hr⟩ := aidx_r hv ha hx
    refine ⟨_, .e (.c hr), ?_⟩
    simp [execOp, ho, hu, hyv, Instr.indexAt, asIntOf, run_underlying hd, h0, h1, sizeOf, typeInfo, hinf, hs]
  · rename_i n e hd
    obtain ⟨inf, hinf, h3⟩ := bindR h2
    obtain ⟨v, hv, h4⟩ := bindR h3
    clear h2 h3
    cases h4
    refine .pure rfl rfl fun G M w a hR hx ha => ?_
    obtain ⟨ki, hyv, _⟩ := asI_v hi (hx y (by simp [ho, Op.operands]))
    have hx := hx x (by simp [ho, Op.operands])
    have hs : E.P.cellsOf e = inf.size := by simp [Program.cellsOf, hinf]
    unfold aidxA at hv
    rcases condO hv with ⟨hc, hv2⟩ | ⟨_, hv2⟩
    · simp only [Bool.and_eq_true, decide_eq_true_eq] at hc
      obtain ⟨h0, h1⟩ := hc
      have hrun : ∀ A : Addr, (Instr.indexAt t (.pointer (some A)) (.int ki i)).run E.P w = .ok (.pointer (some (A.add (i.toNat * E.P.cellsOf e)))) w := by
        intro A
        simp [Instr.indexAt, asIntOf, run_underlying hd, h0, h1, sizeOf, typeInfo, hinf, hs, Instr.sureAddr]
      obtain ⟨A, hu, hr⟩ := afield_r hv2 hx
      exact ⟨_, .e (.c hr), by simp [execOp, ho, hu, hyv, hrun]⟩
    · cases hv2
  · cases h2
end
end Go.Ab

/- Slicing, literals, built-in functions. -/
namespace Go.Ab
open Go

section
variable {P : Program} {E : Env} {call : Cfg → Option Out} {c : Cfg} {o : Oper} {G : Gh} {m M : Mem} {w : World}
theorem optI_v {l : List TV} {x : Option Operand} {n : Option Int} (h : optI l x = some n) {a : Act} (hx : ∀ y, x = some y → TVR G M w (ev l y) (a.eval y)) : (x = none ∧ n = none) ∨ ∃ y i k, x = some y ∧ n = some i ∧ a.eval y = .int k i := by
  unfold optI at h
  split at h
  · cases h; exact .inl ⟨rfl, rfl⟩
  · rename_i y
    split at h
    · rename_i i hi
      cases h
      obtain ⟨k, hk, _⟩ := asI_v hi (hx y rfl)
      exact .inr ⟨y, i, k, rfl, rfl, hk⟩
    · cases h
theorem sliceBounds_run {isS : Bool} {len cap : Nat} {lo hi : Option Value} {l h : Option Int} (hl : (lo = none ∧ l = none) ∨ ∃ k i, lo = some (.int k i) ∧ l = some i) (hh : (hi = none ∧ h = none) ∨ ∃ k i, hi = some (.int k i) ∧ h = some i) (h0 : 0 ≤ l.getD 0) (h1 : l.getD 0 ≤ h.getD len) (h2 : h.getD len ≤ (len : Int)) (h3 : len ≤ cap) :
    (Instr.sliceBounds isS len cap lo hi none).run P w = .ok ((l.getD 0).toNat, (h.getD len).toNat, cap) w := by
  rcases hl with ⟨rfl, rfl⟩ | ⟨kl, il, rfl, rfl⟩ <;> rcases hh with ⟨rfl, rfl⟩ | ⟨kh, ih, rfl, rfl⟩ <;> simp only [Option.getD_none, Option.getD_some] at h0 h1 h2 ⊢
  · simp [Instr.sliceBounds]
  · have a1 : 0 ≤ ih ∧ ih ≤ (cap : Int) := ⟨h1, by omega⟩
    have a2 : 0 ≤ ih := h1
    simp [Instr.sliceBounds, Instr.sliceBound, asIntOf, a1]
  · have a1 : 0 ≤ il ∧ il ≤ (len : Int) := ⟨h0, h1⟩
    simp [Instr.sliceBounds, Instr.sliceBound, asIntOf, a1]
  · have a1 : 0 ≤ ih ∧ ih ≤ (cap : Int) := ⟨by omega, by omega⟩
    have a2 : 0 ≤ il ∧ il ≤ ih := ⟨h0, h1⟩
    simp [Instr.sliceBounds, Instr.sliceBound, asIntOf, a1, a2]
    intro hlt
    exfalso
    omega
theorem op_slice {t : TypeId} {x : Operand} {lo hi : Option Operand} {r : OpOut} (ho : o.op = .slice t x lo hi none) (h : opR E call c o = some r) : OpSound E.P c o r := by
  unfold opR opK at h
  rw [ho] at h
  dsimp only at h
  obtain ⟨l, hl, h2⟩ := bindR h
  obtain ⟨hh, hhi, h3⟩ := bindR h2
  clear h h2
  have hops : ∀ {G : Gh} {M : Mem} {w : World} {a : Act}, OperR G M w c o a → ((lo.map a.eval = none ∧ l = none) ∨ ∃ k i, lo.map a.eval = some (.int k i) ∧ l = some i) ∧ ((hi.map a.eval = none ∧ hh = none) ∨ ∃ k i, hi.map a.eval = some (.int k i) ∧ hh = some i) := by
    intro G M w a hx
    constructor
    · rcases optI_v (a := a) hl fun y hy => hx y (by simp [ho, Op.operands, hy]) with ⟨h1, h2⟩ | ⟨y, i, k, h1, h2, h3⟩
      · exact .inl ⟨by simp [h1], h2⟩
      · exact .inr ⟨k, i, by simp [h1, h3], h2⟩
    · rcases optI_v (a := a) hhi fun y hy => hx y (by simp [ho, Op.operands, hy]) with ⟨h1, h2⟩ | ⟨y, i, k, h1, h2, h3⟩
      · exact .inl ⟨by simp [h1], h2⟩
      · exact .inr ⟨k, i, by simp [h1, h3], h2⟩
  split at h3
  · rename_i hd
    obtain ⟨s, hs, h4⟩ := bindR h3
    clear h3
    cases h4
    refine .pure rfl rfl fun G M w a hR hx ha => ?_
    obtain ⟨o1, o2⟩ := hops hx
    have hx := hx x (by simp [ho, Op.operands])
    unfold asliceS at hs
    split at hs
    · rename_i z e
      rw [e] at hx
      have hz := tv_pc hx
      rcases condO hs with ⟨hc, h5⟩ | ⟨_, h5⟩
      · simp only [Bool.and_eq_true, decide_eq_true_eq] at hc
        cases h5
        have hb := sliceBounds_run (P := E.P) (w := w) (isS := false) (len := z.size) (cap := z.size) o1 o2 hc.1.1 hc.1.2 hc.2 (Nat.le_refl _)
        refine ⟨_, mkS_r _, ?_⟩
        simp [execOp, ho, hz, Instr.sliceAt, Instr.slice, run_underlying hd, hb]
      · cases h5
    · cases hs
  · rename_i e hd
    obtain ⟨inf, hinf, h4⟩ := bindR h3
    obtain ⟨v, hv, h5⟩ := bindR h4
    clear h3 h4
    cases h5
    have hs : E.P.cellsOf e = inf.size := by simp [Program.cellsOf, hinf]
    refine .pure rfl rfl fun G M w a hR hx ha => ?_
    obtain ⟨o1, o2⟩ := hops hx
    have hx := hx x (by simp [ho, Op.operands])
    have hrun : ∀ (A : Option Addr) (len cap : Nat), a.eval x = .slice A len cap → 0 ≤ l.getD 0 → l.getD 0 ≤ hh.getD len → hh.getD len ≤ (len : Int) → len ≤ cap →
        (execOp a.eval o).run E.P w = .ok (.value (.slice (if cap = (l.getD 0).toNat then A else A.map (·.add ((l.getD 0).toNat * E.P.cellsOf e))) ((hh.getD len).toNat - (l.getD 0).toNat) (cap - (l.getD 0).toNat))) w := by
      intro A len cap hu h0 h1 h2 h3
      have hb := sliceBounds_run (P := E.P) (w := w) (isS := true) (len := len) (cap := cap) o1 o2 h0 h1 h2 h3
      simp [execOp, ho, hu, Instr.sliceAt, Instr.slice, run_underlying hd, hb, sizeOf, typeInfo, hinf, hs]
    -- a part of what is never written
    have pr : ∀ {es : List (List PV)} {u : Value}, PR (G.ok w) w (.sl es) u → a.eval x = u → 0 ≤ l.getD 0 → l.getD 0 ≤ hh.getD es.length → hh.getD es.length ≤ (es.length : Int) → headLen (E.P.cellsOf e) es = true →
        ∃ u', TVR G M w (.e (.c (.p (.sl ((es.drop (l.getD 0).toNat).take (hh.getD es.length - l.getD 0).toNat))))) u' ∧ (execOp a.eval o).run E.P w = .ok (.value u') w := by
      intro es u hp hu h0 h1 h2 hhl
      cases hp with
      | sl _ A n cap k cv hn hcap hA hcv =>
        subst hn
        refine ⟨_, .e (.c (.p ?_)), hrun A es.length cap hu h0 h1 h2 hcap⟩
        have hlen : ((es.drop (l.getD 0).toNat).take (hh.getD es.length - l.getD 0).toNat).length = (hh.getD es.length).toNat - (l.getD 0).toNat := by
          simp only [List.length_take, List.length_drop]
          omega
        refine .sl _ _ _ _ k (fun i j => cv (i + (l.getD 0).toNat) j) hlen (by omega) (fun hpos => ?_) fun i e' j y he hj => ?_
        · have hpos' : 0 < es.length := by omega
          obtain ⟨b, q, rfl, hb, hc⟩ := hA hpos'
          have hk : E.P.cellsOf e = k := by
            cases es with
            | nil => simp at hpos'
            | cons e0 es0 =>
              have h3 := (hc 0 e0 rfl).1
              simp only [headLen, beq_iff_eq] at hhl
              omega
          refine ⟨b, q + (l.getD 0).toNat * k, ?_, hb, fun i e' he => ?_⟩
          · rw [if_neg (by omega), hk, Option.map_some, add_cellAt]
          · rw [List.getElem?_take] at he
            split at he
            · rw [List.getElem?_drop] at he
              obtain ⟨h3, h4⟩ := hc _ e' he
              refine ⟨h3, fun j y hj => ?_⟩
              have := h4 j y hj
              rw [Nat.add_comm (l.getD 0).toNat i] at this
              rw [← this, Nat.add_mul]
              congr 2
              omega
            · cases he
        · rw [List.getElem?_take] at he
          split at he
          · rw [List.getElem?_drop] at he
            have := hcv _ e' j y he hj
            rwa [Nat.add_comm (l.getD 0).toNat i] at this
          · cases he
    unfold aslice at hv
    split at hv
    · rename_i es e1
      rw [e1] at hx
      rcases condO hv with ⟨hc, h5⟩ | ⟨_, h5⟩
      · simp only [Bool.and_eq_true, decide_eq_true_eq] at hc
        cases h5
        generalize hu : a.eval x = u at hx
        cases te_c (tv_e hx) with
        | tsl hp => exact pr hp hu hc.1.1.1 hc.1.1.2 hc.1.2 hc.2
      · cases h5
    · rename_i es e1
      rw [e1] at hx
      rcases condO hv with ⟨hc, h5⟩ | ⟨_, h5⟩
      · simp only [Bool.and_eq_true, decide_eq_true_eq] at hc
        cases h5
        generalize hu : a.eval x = u at hx
        cases te_c (tv_e hx) with
        | p hp => exact pr hp hu hc.1.1.1 hc.1.1.2 hc.1.2 hc.2
      · cases h5
    · rename_i id ver off len e1
      rw [e1] at hx
      rcases condO hv with ⟨hc, h5⟩ | ⟨_, h5⟩
      · simp only [Bool.and_eq_true, decide_eq_true_eq] at hc
        obtain ⟨⟨⟨h0, h1⟩, h2⟩, hk⟩ := hc
        cases h5
        generalize hu : a.eval x = u at hx
        cases te_c (tv_e hx) with
        | @oref _ _ _ _ cap A ob hob hl' hv' hcap hg =>
          refine ⟨_, .e (.c ?_), hrun (some A) len cap hu h0 h1 h2 hcap⟩
          have ek := hasK_v hk ha hob hl'
          have e2 : (if cap = (l.getD 0).toNat then some A else Option.map (·.add ((l.getD 0).toNat * E.P.cellsOf e)) (some A)) = some (if cap = (l.getD 0).toNat then A else A.add ((l.getD 0).toNat * E.P.cellsOf e)) := by split <;> rfl
          have e3 : (hh.getD len - l.getD 0).toNat = (hh.getD len).toNat - (l.getD 0).toNat := by omega
          rw [e2, e3]
          refine .oref ob hob hl' hv' (by omega) fun he => ?_
          obtain ⟨g, b, hat, hA, ty, n, hsh, hn⟩ := hg he
          refine ⟨g, b, hat, fun hpos => ?_, ty, n, hsh, ?_⟩
          · rw [if_neg (by omega), hA (by omega), add_cellAt, ← ek, Nat.add_mul, Nat.add_assoc]
          · have : off + (l.getD 0).toNat + (cap - (l.getD 0).toNat) = off + cap := by omega
            rw [this]
            exact hn
      · cases h5
    · cases hv
  · cases h3
theorem op_clip {t : TypeId} {x y z : Operand} {r : OpOut} (ho : o.op = .slice t x none (some y) (some z)) (h : opR E call c o = some r) : OpSound E.P c o r := by
  unfold opR opK at h
  rw [ho] at h
  dsimp only at h
  obtain ⟨hi, hhi, h2⟩ := bindR h
  obtain ⟨mx, hmx, h3⟩ := bindR h2
  clear h h2
  split at h3
  · rename_i e hd
    obtain ⟨inf, hinf, h4⟩ := bindR h3
    obtain ⟨v, hv, h5⟩ := bindR h4
    clear h3 h4
    cases h5
    refine .pure rfl rfl fun G M w a hR hx ha => ?_
    obtain ⟨k1, e1, _⟩ := asI_v hhi (hx y (by simp [ho, Op.operands]))
    obtain ⟨k2, e2, _⟩ := asI_v hmx (hx z (by simp [ho, Op.operands]))
    have hx := hx x (by simp [ho, Op.operands])
    have hrun : ∀ (A : Option Addr) (len cap : Nat), a.eval x = .slice A len cap → hi = len → mx = len → len ≤ cap → (execOp a.eval o).run E.P w = .ok (.value (.slice A len len)) w := by
      intro A len cap hu h1 h2 h3
      have a1 : (0 : Int) ≤ len ∧ (len : Int) ≤ cap := ⟨by omega, by omega⟩
      subst h1 h2
      have e3 : (if len = 0 then A else Option.map (·.add (0 * inf.size)) A) = A := by
        split
        · rfl
        · cases A with
          | none => rfl
          | some A => simp [Addr.add]
      simp [execOp, ho, hu, e1, e2, Instr.sliceAt, Instr.slice, run_underlying hd, sizeOf, typeInfo, hinf, Instr.sliceBounds, Instr.sliceBound, asIntOf, a1.1, a1.2, h3]
      cases A <;> simp [Addr.add]
    have pr : ∀ {es : List (List PV)} {u : Value}, PR (G.ok w) w (.sl es) u → a.eval x = u → hi = es.length → mx = es.length → ∃ u', TVR G M w (.e (.c (.tsl es))) u' ∧ (execOp a.eval o).run E.P w = .ok (.value u') w := by
      intro es u hp hu h1 h2
      cases hp with
      | sl _ A n cap k cv hn hcap hA hcv =>
        subst hn
        exact ⟨_, .e (.c (.tsl (.sl _ A _ _ k cv rfl (Nat.le_refl _) hA hcv))), hrun A es.length cap hu h1 h2 hcap⟩
    unfold aclip at hv
    split at hv
    · rename_i es e3
      rw [e3] at hx
      rcases condO hv with ⟨hc, h6⟩ | ⟨_, h6⟩
      · simp only [Bool.and_eq_true, decide_eq_true_eq] at hc
        cases h6
        generalize hu : a.eval x = u at hx
        cases te_c (tv_e hx) with
        | tsl hp => exact pr hp hu hc.1 hc.2
      · cases h6
    · rename_i es e3
      rw [e3] at hx
      rcases condO hv with ⟨hc, h6⟩ | ⟨_, h6⟩
      · simp only [Bool.and_eq_true, decide_eq_true_eq] at hc
        cases h6
        generalize hu : a.eval x = u at hx
        cases te_c (tv_e hx) with
        | p hp => exact pr hp hu hc.1 hc.2
      · cases h6
    · rename_i id ver off len e3
      rw [e3] at hx
      rcases condO hv with ⟨hc, h6⟩ | ⟨_, h6⟩
      · simp only [Bool.and_eq_true, decide_eq_true_eq] at hc
        cases h6
        generalize hu : a.eval x = u at hx
        cases te_c (tv_e hx) with
        | @oref _ _ _ _ cap A ob hob hl' hv' hcap hg =>
          refine ⟨_, .e (.c (.toref ob hob hl' hv' fun he => ?_)), hrun (some A) len cap hu hc.1 hc.2 hcap⟩
          obtain ⟨g, b, hat, hA, _⟩ := hg he
          exact ⟨g, b, hat, fun hp => hA (by omega)⟩
      · cases h6
    · rename_i id ver off len e3
      rw [e3] at hx
      rcases condO hv with ⟨hc, h6⟩ | ⟨_, h6⟩
      · simp only [Bool.and_eq_true, decide_eq_true_eq] at hc
        cases h6
        generalize hu : a.eval x = u at hx
        cases te_c (tv_e hx) with
        | @toref _ _ _ _ A ob hob hl' hv' hg =>
          exact ⟨_, .e (.c (.toref ob hob hl' hv' hg)), hrun (some A) len len hu hc.1 hc.2 (Nat.le_refl _)⟩
      · cases h6
    · cases hv
  · cases h3
theorem op_index {t : TypeId} {x y : Operand} {r : OpOut} (ho : o.op = .index t x y) (h : opR E call c o = some r) : OpSound E.P c o r := by
  unfold opR opK at h
  rw [ho] at h
  dsimp only at h
  obtain ⟨i, hi, h2⟩ := bindR h
  clear h
  split at h2
  · rename_i hd
    obtain ⟨v, hv, h3⟩ := bindR h2
    clear h2
    cases h3
    refine .pure rfl rfl fun G M w a hR hx ha => ?_
    obtain ⟨k1, e1, _⟩ := asI_v hi (hx y (by simp [ho, Op.operands]))
    have hx := hx x (by simp [ho, Op.operands])
    unfold aidxS at hv
    split at hv
    · rename_i s e
      rw [e] at hx
      have hs := tv_pc hx
      rcases condO hv with ⟨hc, h4⟩ | ⟨_, h4⟩
      · simp only [decide_eq_true_eq] at hc
        split at h4
        · rename_i b hb
          cases h4
          have hb' : s[i.toNat]? = some b := by
            have h5 : i.toNat < s.size := by
              have := (List.getElem?_eq_some_iff.1 hb).1
              simpa using this
            rw [getElem?_pos s i.toNat h5]
            rw [Array.getElem?_toList] at hb
            have h6 : s.data[i.toNat]? = some s.data[i.toNat] := Array.getElem?_eq_getElem h5
            rw [h6] at hb
            cases hb
            rfl
          exact ⟨_, mkI_r _ _, by simp [execOp, ho, hs, e1, Instr.index, asIntOf, run_underlying hd, hc, hb']⟩
        · cases h4
      · cases h4
    · cases hv
  · cases h2
theorem op_extract {x : Operand} {i : Nat} {r : OpOut} (ho : o.op = .extract x i) (h : opR E call c o = some r) : OpSound E.P c o r := by
  unfold opR opK at h
  rw [ho] at h
  dsimp only at h
  obtain ⟨v, hv, h2⟩ := bindR h
  obtain ⟨h3, _⟩ := typedK_v h2
  clear h h2
  cases h3
  refine .pure rfl rfl fun G M w a hR hx ha => ?_
  have hx := hx x (by simp [ho, Op.operands])
  unfold aext at hv
  split at hv
  · rename_i xs e
    rw [e] at hx
    generalize hu : a.eval x = u at hx
    cases hx with
    | @t _ vs hn hxs =>
      have hlt : i < vs.size := by rw [← hn]; exact (List.getElem?_eq_some_iff.1 hv).1
      have hvi : vs[i]? = some vs[i] := Array.getElem?_eq_getElem hlt
      exact ⟨_, .e (hxs i v _ hv hvi), by simp [execOp, ho, hu, Instr.extract, hvi]⟩
  · cases hv
end
end Go.Ab

/- Literals, made slices, built-in functions. -/
namespace Go.Ab
open Go

section
variable {P : Program} {E : Env} {call : Cfg → Option Out} {c : Cfg} {o : Oper} {G : Gh} {m M : Mem} {w : World}
theorem foldl_set (off : Nat) : ∀ (l : List Value) (s : Nat) (cells : Array Value), ((l.zipIdx s).foldl (fun cs x => cs.setIfInBounds (off + x.2) x.1) cells).size = cells.size ∧
    ∀ k, off + s + l.length ≤ cells.size → ((l.zipIdx s).foldl (fun cs x => cs.setIfInBounds (off + x.2) x.1) cells)[k]? = if off + s ≤ k ∧ k < off + s + l.length then l[k - off - s]? else cells[k]?
  | [], s, cells => by
    refine ⟨rfl, fun k _ => ?_⟩
    rw [if_neg (by simp only [List.length_nil]; omega)]
    rfl
  | v :: l, s, cells => by
    obtain ⟨h1, h2⟩ := foldl_set off l (s + 1) (cells.setIfInBounds (off + s) v)
    simp only [List.zipIdx_cons, List.foldl_cons]
    refine ⟨by rw [h1]; simp, fun k hk => ?_⟩
    simp only [List.length_cons] at hk ⊢
    rw [h2 k (by simp only [Array.size_setIfInBounds]; omega)]
    by_cases c1 : k = off + s
    · subst c1
      rw [if_neg (by omega), if_pos (by omega)]
      have : off + s - off - s = 0 := by omega
      rw [this, Array.getElem?_setIfInBounds_self_of_lt (by omega)]
      rfl
    · by_cases c2 : off + (s + 1) ≤ k ∧ k < off + (s + 1) + l.length
      · rw [if_pos c2, if_pos (by omega)]
        have : k - off - s = (k - off - (s + 1)) + 1 := by omega
        rw [this, List.getElem?_cons_succ]
      · rw [if_neg c2, if_neg (by omega), Array.getElem?_setIfInBounds_ne (by omega)]
theorem upd_r {cs : List CV} {xs : Array Value} (hc : CsR G m w cs xs) {te : TE} {v : Value} (hv : TER G m w te v) {off : Nat} (ho : off + te.cells.length ≤ cs.length) :
    CsR G m w (updC cs off te.cells) (v.cells.zipIdx.foldl (fun cs (x : Value × Nat) => cs.setIfInBounds (off + x.2) x.1) xs) := by
  obtain ⟨h1, h2⟩ := te_cells hv
  have hl := hc.1
  have e : v.cells.zipIdx.foldl (fun cs (x : Value × Nat) => cs.setIfInBounds (off + x.2) x.1) xs = (v.cells.toList.zipIdx 0).foldl (fun cs x => cs.setIfInBounds (off + x.2) x.1) xs := by
    rw [← Array.foldl_toList, Array.toList_zipIdx]
  rw [e]
  obtain ⟨h3, h4⟩ := foldl_set off v.cells.toList 0 xs
  simp only [Nat.add_zero, Array.length_toList] at h4
  refine ⟨by rw [h3]; simp [updC]; omega, fun i x u hi hu => ?_⟩
  rw [h4 i (by omega)] at hu
  simp only [updC, List.append_assoc, List.getElem?_append, List.length_take, List.getElem?_take, List.getElem?_drop] at hi
  rw [Nat.min_eq_left (by omega)] at hi
  by_cases c1 : i < off
  · rw [if_pos c1, if_pos c1] at hi
    rw [if_neg (by omega)] at hu
    exact hc.2 i x u hi hu
  · rw [if_neg c1] at hi
    by_cases c2 : i - off < te.cells.length
    · rw [if_pos c2] at hi
      rw [if_pos (by omega)] at hu
      obtain ⟨u', hu', hr⟩ := h2 _ x hi
      simp only [Nat.sub_zero, Array.getElem?_toList] at hu
      rw [hu'] at hu
      cases hu
      exact hr
    · rw [if_neg c2] at hi
      rw [if_neg (by omega)] at hu
      have : off + te.cells.length + (i - off - te.cells.length) = i := by omega
      rw [this] at hi
      exact hc.2 i x u hi hu
/-- A struct's, or an array's, parts put in. -/
theorem afill_r {pl : Nat → Option (Nat × Nat)} {t : TypeId} {l : List TV} {a : Act} (hpl : ∀ i p, placeOf P t i = some p → pl i = some p) : ∀ {parts : List (Nat × Operand)} {ps : List (Nat × Nat × TV)} {cs cs' : List CV} {xs : Array Value},
    places P l t parts = some ps → afill cs ps = some cs' → CsR G m w cs xs → (∀ p ∈ parts, TVR G m w (ev l p.2) (a.eval p.2)) → ∃ xs', Instr.fill pl xs (parts.map fun p => (p.1, a.eval p.2)) = some xs' ∧ CsR G m w cs' xs'
  | [], ps, cs, cs', xs, h1, h2, hc, _ => by
    cases h1
    cases h2
    exact ⟨xs, rfl, hc⟩
  | (i, x) :: parts, ps, cs, cs', xs, h1, h2, hc, hv => by
    simp only [places] at h1
    split at h1
    · rename_i off n hp
      split at h1
      · rename_i r hr
        cases h1
        have hx := hv (i, x) (by simp)
        dsimp only at hx
        generalize ev l x = tv at hx h2
        cases tv with
        | e te =>
          simp only [afill] at h2
          rcases condO h2 with ⟨hcc, h3⟩ | ⟨_, h3⟩
          · simp only [Bool.and_eq_true, beq_iff_eq, decide_eq_true_eq] at hcc
            have hu := upd_r hc (tv_e hx) (off := off) (by omega)
            obtain ⟨xs', hf, hr'⟩ := afill_r hpl hr h3 hu (fun p hp => hv p (by simp [hp]))
            refine ⟨xs', ?_, hr'⟩
            have hvs := (te_cells (tv_e hx)).1
            simp only [List.map_cons, Instr.fill, hpl i _ hp]
            rw [if_neg]
            · exact hf
            · rw [hvs, hcc.1, ← hc.1]
              simp
              omega
          · cases h3
        | t => cases h2
        | bad => cases h2
      · cases h1
    · cases h1
theorem places_of {fs : Array Field} (h : (fs.toList.all fun f => (P.info? f.type).isSome) = true) : ∃ pls : List (Nat × Nat), fs.toList.mapM (fun f => (P.info? f.type).map fun i => (f.offset, i.size)) = some pls ∧ ∀ (i : Nat) (f : Field), fs[i]? = some f → pls.toArray[i]? = some (f.offset, P.cellsOf f.type) := by
  refine ⟨fs.toList.map fun f => (f.offset, P.cellsOf f.type), ?_, fun i f hf => by simp [hf]⟩
  generalize fs.toList = l at h
  induction l with
  | nil => rfl
  | cons f l ih =>
    simp only [List.all_cons, Bool.and_eq_true] at h
    obtain ⟨i, hi⟩ := Option.isSome_iff_exists.1 h.1
    simp [List.mapM_cons, hi, ih h.2, Program.cellsOf]
theorem op_build {t : TypeId} {parts : Array (Nat × Operand)} {r : OpOut} (ho : o.op = .build t parts) (h : opR E call c o = some r) : OpSound E.P c o r := by
  unfold opR opK at h
  rw [ho] at h
  dsimp only at h
  obtain ⟨z, hz, hzl, h2⟩ := zeroK_v h
  clear h
  rcases condR h2 with ⟨hb, h3⟩ | ⟨_, h3⟩
  · obtain ⟨ps, hps, h4⟩ := bindR h3
    obtain ⟨cs, hcs, h5⟩ := bindR h4
    clear h2 h3 h4
    cases h5
    refine .pure rfl rfl fun G M w a hR hx ha => ?_
    obtain ⟨it, zv, hit, hzv, hzr⟩ := zeroE_r hz
    have hzc := te_cells (hzr G M w)
    have hc0 : CsR G M w z.cells zv.cells := ⟨hzc.1.symm, fun i x v hi hv => by
      obtain ⟨u, hu, hr⟩ := hzc.2 i x hi
      rw [hv] at hu
      cases hu
      exact hr⟩
    have hop : ∀ p ∈ parts.toList, TVR G M w (ev c.tmps p.2) (a.eval p.2) := fun p hp => hx p.2 (by
      simp only [ho, Op.operands, List.mem_toArray, List.mem_map]
      exact ⟨p, hp, rfl⟩)
    have hmap : (parts.map fun p => (p.1, a.eval p.2)).toList = parts.toList.map fun p => (p.1, a.eval p.2) := by simp
    unfold buildable at hb
    split at hb
    · rename_i fs hd
      obtain ⟨pls, h6, h7⟩ := places_of hb
      obtain ⟨xs, hf, hr⟩ := afill_r (P := E.P) (pl := (pls.toArray[·]?)) (t := t) (fun i p hp => by
        simp only [placeOf, hd] at hp
        split at hp
        · rename_i f hf
          cases hp
          exact h7 i f hf
        · cases hp) hps hcs hc0 hop
      have hbt : E.P.built t (parts.map fun p => (p.1, a.eval p.2)).toList = some xs := by
        simp only [Program.built, hit, hd, hzv, h6, hmap]
        exact hf
      exact ⟨.agg xs, .e (.a hr.1 hr.2), by simp [execOp, ho, run_build w t _ _ hbt]⟩
    · rename_i n e hd
      obtain ⟨ie, hie⟩ := Option.isSome_iff_exists.1 hb
      obtain ⟨xs, hf, hr⟩ := afill_r (P := E.P) (pl := fun i => some (i * ie.size, ie.size)) (t := t) (fun i p hp => by
        simp only [placeOf, hd, Program.cellsOf, hie] at hp
        exact hp) hps hcs hc0 hop
      have hbt : E.P.built t (parts.map fun p => (p.1, a.eval p.2)).toList = some xs := by
        simp only [Program.built, hit, hd, hzv, hie, hmap]
        exact hf
      exact ⟨.agg xs, .e (.a hr.1 hr.2), by simp [execOp, ho, run_build w t _ _ hbt]⟩
    · cases hb
  · cases h3
theorem flat_made {z : TE} {v : Value} (hz : ∀ (G : Gh) (m : Mem) (w : World), TER G m w z v) (l n : Nat) (hl : l ≤ n) (rest : List Value) : Flat G m w z.cells.length (List.replicate l z.cells) ((madeCells v.cells (n * z.cells.length)).toList.take (l * z.cells.length)) := by
  obtain ⟨h1, h2⟩ := te_cells (hz G m w)
  have hle : l * z.cells.length ≤ n * z.cells.length := Nat.mul_le_mul_right _ hl
  refine ⟨by simp only [List.length_take, Array.length_toList, size_madeCells, List.length_replicate]; omega, fun i e he => ?_⟩
  rw [List.getElem?_replicate] at he
  split at he
  · rename_i hi
    cases he
    refine ⟨rfl, fun j x hj => ?_⟩
    have hjk : j < z.cells.length := (List.getElem?_eq_some_iff.1 hj).1
    obtain ⟨u, hu, hr⟩ := h2 j x hj
    refine ⟨u, ?_, hr⟩
    have hq : i * z.cells.length + j < l * z.cells.length := by
      have : (i + 1) * z.cells.length ≤ l * z.cells.length := Nat.mul_le_mul_right _ hi
      rw [Nat.add_mul] at this
      omega
    rw [List.getElem?_take, if_pos hq, Array.getElem?_toList]
    unfold madeCells
    rw [Array.getElem?_map, Array.getElem?_range, if_pos (by omega)]
    have em : (i * z.cells.length + j) % v.cells.size = j := by
      rw [h1, Nat.mul_comm, Nat.mul_add_mod, Nat.mod_eq_of_lt hjk]
    simp only [Option.map_some, em]
    rw [getElem!_pos v.cells j (by omega)]
    rw [Array.getElem?_eq_getElem (by omega)] at hu
    exact hu
  · cases he
theorem afillS_r {k : Nat} {l : List TV} {a : Act} : ∀ {parts : List (Nat × Operand)} {es es' : List (List CV)} {xs : Array Value},
    afillS k es (parts.map fun p => (p.1, ev l p.2)) = some es' → Flat G m w k es xs.toList → (∀ p ∈ parts, TVR G m w (ev l p.2) (a.eval p.2)) → ∃ xs', Instr.fill (fun i => some (i * k, k)) xs (parts.map fun p => (p.1, a.eval p.2)) = some xs' ∧ Flat G m w k es' xs'.toList ∧ es'.length = es.length
  | [], es, es', xs, h1, hc, _ => by
    cases h1
    exact ⟨xs, rfl, hc, rfl⟩
  | (i, x) :: parts, es, es', xs, h1, hc, hv => by
    have hx := hv (i, x) (by simp)
    simp only [List.map_cons] at h1
    generalize ev l x = tv at hx h1
    cases tv with
    | e te =>
      simp only [afillS] at h1
      rcases condO h1 with ⟨hcc, h2⟩ | ⟨_, h2⟩
      · simp only [Bool.and_eq_true, beq_iff_eq, decide_eq_true_eq] at hcc
        obtain ⟨hk, hi⟩ := hcc
        obtain ⟨h3, h4⟩ := te_cells (tv_e hx)
        have hsz := hc.1
        simp only [Array.length_toList] at hsz
        have hik : i * k + k ≤ es.length * k := by
          have : (i + 1) * k ≤ es.length * k := Nat.mul_le_mul_right _ hi
          rwa [Nat.add_mul, Nat.one_mul] at this
        have e : (a.eval x).cells.zipIdx.foldl (fun cs (y : Value × Nat) => cs.setIfInBounds (i * k + y.2) y.1) xs = ((a.eval x).cells.toList.zipIdx 0).foldl (fun cs y => cs.setIfInBounds (i * k + y.2) y.1) xs := by
          rw [← Array.foldl_toList, Array.toList_zipIdx]
        obtain ⟨h5, h6⟩ := foldl_set (i * k) (a.eval x).cells.toList 0 xs
        rw [← e] at h5 h6
        simp only [Nat.add_zero, Array.length_toList, h3, hk] at h6
        have hfl : Flat G m w k (es.set i te.cells) ((a.eval x).cells.zipIdx.foldl (fun cs (y : Value × Nat) => cs.setIfInBounds (i * k + y.2) y.1) xs).toList := by
          refine ⟨by simp only [Array.length_toList, h5, List.length_set, hsz], fun i' e' he' => ?_⟩
          rw [List.getElem?_set] at he'
          split at he'
          · rename_i hii
            subst hii
            first | rw [if_pos hi] at he' | skip
            cases he'
            refine ⟨hk, fun j y hj => ?_⟩
            obtain ⟨u, hu, hr⟩ := h4 j y hj
            refine ⟨u, ?_, hr⟩
            have hjk : j < k := by rw [← hk]; exact (List.getElem?_eq_some_iff.1 hj).1
            rw [Array.getElem?_toList, h6 _ (by omega), if_pos (by omega)]
            have : i * k + j - i * k - 0 = j := by omega
            rw [this, Array.getElem?_toList]
            exact hu
          · rename_i hii
            obtain ⟨h7, h8⟩ := hc.2 i' e' he'
            refine ⟨h7, fun j y hj => ?_⟩
            obtain ⟨u, hu, hr⟩ := h8 j y hj
            refine ⟨u, ?_, hr⟩
            have hjk : j < k := by rw [← h7]; exact (List.getElem?_eq_some_iff.1 hj).1
            rw [Array.getElem?_toList, h6 _ (by omega), if_neg]
            · rw [← hu, Array.getElem?_toList]
            · rintro ⟨h9, h10⟩
              rcases Nat.lt_or_gt_of_ne hii with hlt | hlt
              · have : (i + 1) * k ≤ i' * k := Nat.mul_le_mul_right _ hlt
                rw [Nat.add_mul] at this
                omega
              · have : (i' + 1) * k ≤ i * k := Nat.mul_le_mul_right _ hlt
                rw [Nat.add_mul] at this
                omega
        obtain ⟨xs', hf, hr', hlen⟩ := afillS_r h2 hfl (fun p hp => hv p (by simp [hp]))
        refine ⟨xs', ?_, hr', by rw [hlen]; simp⟩
        simp only [List.map_cons, Instr.fill]
        rw [if_neg]
        · exact hf
        · rw [h3, hk, hsz]
          simp
          omega
      · cases h2
    | t => cases h1
    | bad => cases h1
theorem flat_new {e : TypeId} {k : Nat} {es : List (List CV)} {xs : Array Value} {vs : List Value} (h : Flat G m w k es vs) (hp : vs <+: xs.toList) (ver : Nat) : NewObj G m w (w.alloc (.cells xs e)) ⟨ver, k, e, true, es⟩ w.heap.size := by
  obtain ⟨t, ht⟩ := hp
  refine ⟨rfl, grown_alloc _, Nat.le_refl _, by simp, xs, heap_alloc_new w _, ?_, fun idx e' he' => ?_⟩
  · have := congrArg List.length ht
    simp only [List.length_append, Array.length_toList, h.1] at this
    dsimp only
    omega
  · obtain ⟨h1, h2⟩ := h.2 idx e' he'
    refine ⟨h1, fun j y hj => ?_⟩
    obtain ⟨u, hu, hr⟩ := h2 j y hj
    refine ⟨u, ?_, hr⟩
    rw [← Array.getElem?_toList, ← ht, List.getElem?_append_left (List.getElem?_eq_some_iff.1 hu).1]
    exact hu
theorem op_buildSlice {t : TypeId} {len : Nat} {parts : Array (Nat × Operand)} {r : OpOut} (ho : o.op = .buildSlice t len parts) (h : opR E call c o = some r) : OpSound E.P c o r := by
  unfold opR opK at h
  rw [ho] at h
  dsimp only at h
  split at h
  · rename_i e hd
    obtain ⟨z, hz, hzl, h2⟩ := zeroK_v h
    clear h
    rcases condR h2 with ⟨hb, h3⟩ | ⟨_, h3⟩
    · simp only [decide_eq_true_eq] at hb
      obtain ⟨es, hes, h4⟩ := bindR h3
      clear h2 h3
      cases h4
      obtain ⟨it, zv, hit, hzv, hzr⟩ := zeroE_r hz
      have hs : E.P.cellsOf e = it.size := by simp [Program.cellsOf, hit]
      refine .new rfl rfl rfl fun G M w a hR hx => ?_
      have hop : ∀ p ∈ parts.toList, TVR G M w (ev c.tmps p.2) (a.eval p.2) := fun p hp => hx p.2 (by
        simp only [ho, Op.operands, List.mem_toArray, List.mem_map]
        exact ⟨p, hp, rfl⟩)
      have hzc : zv.cells.size = it.size := by rw [(te_cells (hzr G M w)).1, hzl, hs]
      have hfl : Flat G M w (E.P.cellsOf e) (List.replicate len z.cells) (madeCells zv.cells (len * it.size)).toList := by
        have := flat_made (G := G) (m := M) (w := w) hzr len len (Nat.le_refl _) []
        rw [hzl, hs] at this
        rw [hs]
        rwa [List.take_of_length_le (by simp [size_madeCells])] at this
      obtain ⟨xs, hf, hr, hlen⟩ := afillS_r hes hfl hop
      have hmap : (parts.map fun p => (p.1, a.eval p.2)).toList = parts.toList.map fun p => (p.1, a.eval p.2) := by simp
      have hrun : (Instr.buildSlice t len (parts.map fun p => (p.1, a.eval p.2))).run E.P w = .ok (.slice (some (cellAt w.heap.size 0)) len len) (w.alloc (.cells xs e)) := by
        have hb' : ¬ (16777216 < len * it.size) := by rw [hs] at hb; omega
        rw [hs] at hf
        by_cases h0 : len * it.size = 0
        · have e0 : madeCells zv.cells (len * it.size) = #[] := by
            apply Array.eq_empty_of_size_eq_zero
            rw [size_madeCells, h0]
          rw [e0] at hf
          simp only [Instr.buildSlice, Sem.run_bind, run_underlying hd, Result.andThen_ok, sizeOf, typeInfo, hit, run_program, Sem.run_pure, gt_iff_lt, h0]
          simp [hmap, Array.range_zero', hf, newRow]
        · unfold madeCells at hf
          simp [Instr.buildSlice, run_underlying hd, sizeOf, typeInfo, hit, hb', h0, zeroValue, hzv, hmap, hf, newRow]
      have hlen' : es.length = len := by rw [hlen]; simp
      refine ⟨.slice (some (cellAt w.heap.size 0)) len len, w.heap.size, _, flat_new hr (List.prefix_refl _) 0, by simp [execOp, ho, hrun], fun G' M' hat hM => .e (.c ?_)⟩
      have hxs : xs.size = len * E.P.cellsOf e := by
        have := hr.1
        simpa [hlen'] using this
      refine .oref _ hM rfl (Nat.le_refl _) (Nat.le_refl _) fun _ => ⟨_, _, hat, fun _ => by simp, e, xs.size, ?_, ?_⟩
      · have : (w.alloc (.cells xs e)).heap[w.heap.size]? = some (.cells xs e (0, 0)) := heap_alloc_new w _
        simp only [World.shape?, this]
      · simp [hxs]
    · cases h3
  · cases h
theorem op_makeSlice {t : TypeId} {x y : Operand} {r : OpOut} (ho : o.op = .makeSlice t x y) (h : opR E call c o = some r) : OpSound E.P c o r := by
  unfold opR opK at h
  rw [ho] at h
  dsimp only at h
  split at h
  · rename_i e hd
    obtain ⟨z, hz, hzl, h2⟩ := zeroK_v h
    obtain ⟨l, hl, h3⟩ := bindR h2
    obtain ⟨cp, hcp, h4⟩ := bindR h3
    obtain ⟨ob, hob, h5⟩ := bindR h4
    clear h h2 h3 h4
    cases h5
    obtain ⟨it, zv, hit, hzv, hzr⟩ := zeroE_r hz
    have hs : E.P.cellsOf e = it.size := by simp [Program.cellsOf, hit]
    have hby : E.P.bytesOf e = it.bytes := by simp [Program.bytesOf, hit]
    unfold amake at hob
    rcases condO hob with ⟨hc, h6⟩ | ⟨_, h6⟩
    · cases h6
      simp only [Bool.and_eq_true, decide_eq_true_eq, hby, roomB] at hc
      obtain ⟨⟨h0, h1⟩, h2⟩ := hc
      have hc1 : (cp * 1 : Int) ≤ 140737488355328 := Int.le_trans (Int.mul_le_mul_of_nonneg_left (by omega) (by omega)) h2
      have hc2 : (it.bytes : Int) * cp ≤ 140737488355328 := by
        rw [Int.mul_comm]
        exact Int.le_trans (Int.mul_le_mul_of_nonneg_left (by omega) (by omega)) h2
      refine .new rfl rfl rfl fun G M w a hR hx => ?_
      obtain ⟨e1, _⟩ := asK_v hl (hx x (by simp [ho, Op.operands]))
      obtain ⟨e2, _⟩ := asK_v hcp (hx y (by simp [ho, Op.operands]))
      have hrun := run_make (P := E.P) w t e it zv hd hit hzv .i64 .i64 l cp h0 h1 (by omega) (by omega)
      have hfl := flat_made (G := G) (m := M) (w := w) hzr l.toNat cp.toNat (by omega) []
      rw [hzl, hs] at hfl
      have hN := flat_new (e := e) hfl (List.take_prefix _ _) 0
      rw [hs]
      refine ⟨.slice (some (cellAt w.heap.size 0)) l.toNat cp.toNat, w.heap.size, _, hN, by simp [execOp, ho, e1, e2, hrun], fun G' M' hat hM => .e (.c ?_)⟩
      refine .oref _ hM rfl (Nat.le_refl _) (by omega) fun _ => ⟨_, _, hat, fun _ => by simp, e, cp.toNat * it.size, ?_, by simp⟩
      have : (w.alloc (.cells (madeCells zv.cells (cp.toNat * it.size)) e)).heap[w.heap.size]? = some (.cells (madeCells zv.cells (cp.toNat * it.size)) e (0, 0)) := heap_alloc_new w _
      simp only [World.shape?, this, size_madeCells]
    · cases h6
  · cases h
end
end Go.Ab

/- Built-in functions and calls. -/
namespace Go.Ab
open Go

section
variable {P : Program} {E : Env} {call : Cfg → Option Out} {c : Cfg} {o : Oper} {G : Gh} {m M : Mem} {w : World}
theorem run_builtin {b : Builtin} {cl : Call} (ho : o.op = .call cl) (hb : cl.callee = .builtin b) (ρ : Operand → Value) : execOp ρ o = builtin b cl.argTypes o.type (cl.args.map fun | .const _ => true | _ => false) (cl.args.map ρ) := by
  unfold execOp
  rw [ho]
  simp [resolve, hb, invoke]
  rfl
theorem amax_r {k : IntKind} : ∀ {l : List TV} {a n : Int}, amaxGo k a l = some n → ∀ {vs : List Value}, (l.length = vs.length ∧ ∀ (i : Nat) x v, l[i]? = some x → vs[i]? = some v → TVR G m w x v) → (vs.foldlM Builtin.max2 (.int k a)).run P w = .ok (.int k n) w
  | [], a, n, h, vs, ⟨hl, _⟩ => by
    cases h
    have : vs = [] := List.eq_nil_of_length_eq_zero (by simpa using hl.symm)
    subst this
    simp
  | x :: l, a, n, h, vs, ⟨hl, hv⟩ => by
    cases vs with
    | nil => simp at hl
    | cons v vs =>
      simp only [amaxGo] at h
      split at h
      · rename_i b hb
        obtain ⟨rfl, _⟩ := asK_v hb (hv 0 x v rfl rfl)
        have := amax_r h (vs := vs) ⟨by simpa using hl, fun i y u hi hu => hv (i + 1) y u (by simpa using hi) (by simpa using hu)⟩
        simp only [List.foldlM_cons, Builtin.max2, pure_bind]
        exact this
      · cases h
theorem amin_r {k : IntKind} : ∀ {l : List TV} {a n : Int}, aminGo k a l = some n → ∀ {vs : List Value}, (l.length = vs.length ∧ ∀ (i : Nat) x v, l[i]? = some x → vs[i]? = some v → TVR G m w x v) → (vs.foldlM Builtin.min2 (.int k a)).run P w = .ok (.int k n) w
  | [], a, n, h, vs, ⟨hl, _⟩ => by
    cases h
    have : vs = [] := List.eq_nil_of_length_eq_zero (by simpa using hl.symm)
    subst this
    simp
  | x :: l, a, n, h, vs, ⟨hl, hv⟩ => by
    cases vs with
    | nil => simp at hl
    | cons v vs =>
      simp only [aminGo] at h
      split at h
      · rename_i b hb
        obtain ⟨rfl, _⟩ := asK_v hb (hv 0 x v rfl rfl)
        have := amin_r h (vs := vs) ⟨by simpa using hl, fun i y u hi hu => hv (i + 1) y u (by simpa using hi) (by simpa using hu)⟩
        simp only [List.foldlM_cons, Builtin.min2, pure_bind]
        exact this
      · cases h
theorem op_builtin {b : Builtin} {cl : Call} (ho : o.op = .call cl) (hb : cl.callee = .builtin b) {r : OpOut} (h : builtinK (resA call) E c b (cl.args.toList.map (ev c.tmps)) cl.argTypes o.type (fun v m f => some (.val v m f)) = some r) : OpSound E.P c o r := by
  have hrun := run_builtin ho hb
  have hops : ∀ {G : Gh} {M : Mem} {w : World} {a : Act}, OperR G M w c o a → ∀ (i : Nat) (x : TV) (v : Value), (cl.args.toList.map (ev c.tmps))[i]? = some x → (cl.args.map a.eval)[i]? = some v → TVR G M w x v := by
    intro G M w a hx
    exact opsR fun x hx' => hx x (by simp [ho, Op.operands, Call.operands, hb, Array.mem_toList_iff.1 hx'])
  have hlen : ∀ a : Act, (cl.args.toList.map (ev c.tmps)).length = (cl.args.map a.eval).size := by simp
  unfold builtinK at h
  split at h
  · -- len
    split at h
    · rename_i x t hargs hat
      have hv : ∀ a : Act, ∃ v, cl.args.map a.eval = #[v] := by
        intro a
        have := hlen a
        rw [hargs] at this
        generalize cl.args.map a.eval = A at this
        obtain ⟨l⟩ := A
        match l, this with
        | [v], _ => exact ⟨v, rfl⟩
      split at h
      · rename_i hd
        obtain ⟨s, hs, h2⟩ := bindR h
        obtain ⟨n, hn, h3⟩ := bindR h2
        clear h h2
        cases h3
        refine .pure rfl rfl fun G M w a hR hx ha => ?_
        obtain ⟨v, hv⟩ := hv a
        have hxv := hops hx 0 x v (by rw [hargs]; rfl) (by rw [hv]; rfl)
        obtain ⟨rfl, rfl⟩ := asS_v hs hxv
        simp only [alen, Option.some.injEq] at hn
        subst hn
        exact ⟨_, mkI_r _ _, by rw [hrun, hv]; simp [builtin, Builtin.len_, hat, run_underlying hd, goInt]⟩
      · rename_i e hd
        rcases condR h with ⟨_, h2⟩ | ⟨hpc, h2⟩
        · cases h2
        obtain ⟨n, hn, h3⟩ := bindR h2
        clear h h2
        cases h3
        refine .pure rfl rfl fun G M w a hR hx ha => ?_
        obtain ⟨v, hv⟩ := hv a
        have hxv := hops hx 0 x v (by rw [hargs]; rfl) (by rw [hv]; rfl)
        rcases alen_r hn hxv with ⟨A, k, cap, rfl, rfl⟩ | ⟨s, rfl, rfl⟩
        · exact ⟨_, mkI_r _ _, by rw [hrun, hv]; simp [builtin, Builtin.len_, hat, run_underlying hd, goInt]⟩
        · exfalso
          unfold alen at hn
          split at hn
          · cases te_c (tv_e hxv)
          · cases te_c (tv_e hxv)
          · cases te_c (tv_e hxv) with | p h => cases h
          · cases te_c (tv_e hxv)
          · cases hpc
          · cases hn
      · cases h
    · cases h
  · -- append
    split at h
    · rename_i s x t u hargs hat hau
      split at h
      · rename_i e d hd hdu
        rcases condR h with ⟨hrow, h2⟩ | ⟨_, h2⟩
        · obtain ⟨z, hz, hzl, h3⟩ := zeroK_v h2
          obtain ⟨rr, hr, h4⟩ := bindR h3
          clear h h2 h3
          cases h4
          have hk : Keeps c.mem rr.2 ∧ ∀ id, id < c.mem.length → id + 1 ≠ idOf s → rr.2[id]? = c.mem[id]? := by
            unfold aappend at hr
            split at hr
            · cases hr
            · rcases condO hr with ⟨_, hr⟩ | ⟨_, hr⟩
              · split at hr
                · rcases condO hr with ⟨_, hr⟩ | ⟨_, hr⟩
                  · cases hr; exact ⟨.refl _, fun _ _ _ => rfl⟩
                  · rcases condO hr with ⟨_, hr⟩ | ⟨_, hr⟩
                    · cases hr; exact ⟨.app _ _, fun id hid _ => List.getElem?_append_left hid⟩
                    · cases hr
                · rcases condO hr with ⟨_, hr⟩ | ⟨_, hr⟩
                  · cases hr; exact ⟨.refl _, fun _ _ _ => rfl⟩
                  · split at hr
                    · rcases condO hr with ⟨_, hr⟩ | ⟨_, hr⟩
                      · cases hr; exact ⟨.app _ _, fun id hid _ => List.getElem?_append_left hid⟩
                      · cases hr
                    · cases hr
                · rename_i id ver off len
                  rcases condO hr with ⟨_, hr⟩ | ⟨_, hr⟩
                  · cases hr; exact ⟨.refl _, fun _ _ _ => rfl⟩
                  · split at hr
                    · rename_i ob hob
                      rcases condO hr with ⟨_, hr⟩ | ⟨_, hr⟩
                      · cases hr
                        exact ⟨.set (mem_at hob).1 rfl, fun id' _ hne => List.getElem?_set_ne (fun e => hne (by subst e; rfl))⟩
                      · cases hr
                    · cases hr
                · cases hr
              · cases hr
          exact
            { keeps := hk.1
              miss := fun id hid hn _ => hk.2 id hid (fun e => hn (by rw [e]; simp))
              al := fun h => by cases h
              wa := .inl rfl
              ids := fun G M w a hx id hid => by
                have h2 := hlen a
                rw [hargs] at h2
                obtain ⟨v1, v2, hv⟩ : ∃ v1 v2, cl.args.map a.eval = #[v1, v2] := by
                  generalize cl.args.map a.eval = A at h2
                  obtain ⟨l⟩ := A
                  match l, h2 with
                  | [v1, v2], _ => exact ⟨v1, v2, rfl⟩
                rcases hid with hid | hid
                · exact idOf_live (hops hx 1 x v2 (by rw [hargs]; rfl) (by rw [hv]; rfl)) (by simpa [eq_comm] using hid)
                · exact idOf_live (hops hx 0 s v1 (by rw [hargs]; rfl) (by rw [hv]; rfl)) (by simpa [eq_comm] using hid)
              run := fun Q G M w a hR hx ha _ next hn => by
                have h2 := hlen a
                rw [hargs] at h2
                obtain ⟨v1, v2, hv⟩ : ∃ v1 v2, cl.args.map a.eval = #[v1, v2] := by
                  generalize cl.args.map a.eval = A at h2
                  obtain ⟨l⟩ := A
                  match l, h2 with
                  | [v1, v2], _ => exact ⟨v1, v2, rfl⟩
                have hs := hops hx 0 s v1 (by rw [hargs]; rfl) (by rw [hv]; rfl)
                have hxx := hops hx 1 x v2 (by rw [hargs]; rfl) (by rw [hv]; rfl)
                obtain ⟨u', w', G', M', hrun', hM, hev, hrl, hvr⟩ := run_aappend (P := E.P) (t := t) (tx := u) (ty := o.type) hR hd hz hzl hdu hrow hr hs hxx ha
                unfold Oper.wp
                have : (execOp a.eval o).run E.P w = .ok (.value u') w' := by
                  rw [hrun, hv]
                  have e1 : Builtin.append_ cl.argTypes o.type #[v1, v2] = Builtin.append_ #[t, u] o.type #[v1, v2] := by
                    simp [Builtin.append_, hat, hau]
                  simp only [builtin, e1, Sem.run_bind, hrun', Result.andThen_ok, Sem.run_pure]
                rw [this]
                exact hn G' M' w' u' hM hev hrl hvr }
        · cases h2
      · cases h
    · cases h
  · -- max
    split at h
    · rename_i kd hd
      obtain ⟨n, hn, h2⟩ := bindR h
      clear h
      cases h2
      refine .pure rfl rfl fun G M w a hR hx ha => ?_
      have h3 := hops hx
      have h4 := hlen a
      unfold amaxI at hn
      split at hn
      · cases hn
      · rename_i x xs hargs
        split at hn
        · rename_i a0 ha0
          rw [hargs] at h3 h4
          refine ⟨_, mkI_r _ n, ?_⟩
          rw [hrun]
          generalize cl.args.map a.eval = A at h3 h4
          obtain ⟨l⟩ := A
          cases l with
          | nil => simp at h4
          | cons v vs =>
            obtain ⟨rfl, _⟩ := asK_v ha0 (h3 0 x v rfl rfl)
            have := amax_r (P := E.P) (G := G) (m := M) (w := w) hn (vs := vs) ⟨by simpa using h4, fun i y u hi hu => h3 (i + 1) y u (by simpa using hi) (by simpa using hu)⟩
            simp only [builtin, Builtin.max_, Sem.run_bind, this, Result.andThen_ok, Sem.run_pure]
        · cases hn
    · cases h
  · -- min
    split at h
    · rename_i kd hd
      obtain ⟨n, hn, h2⟩ := bindR h
      clear h
      cases h2
      refine .pure rfl rfl fun G M w a hR hx ha => ?_
      have h3 := hops hx
      have h4 := hlen a
      unfold aminI at hn
      split at hn
      · cases hn
      · rename_i x xs hargs
        split at hn
        · rename_i a0 ha0
          rw [hargs] at h3 h4
          refine ⟨_, mkI_r _ n, ?_⟩
          rw [hrun]
          generalize cl.args.map a.eval = A at h3 h4
          obtain ⟨l⟩ := A
          cases l with
          | nil => simp at h4
          | cons v vs =>
            obtain ⟨rfl, _⟩ := asK_v ha0 (h3 0 x v rfl rfl)
            have := amin_r (P := E.P) (G := G) (m := M) (w := w) hn (vs := vs) ⟨by simpa using h4, fun i y u hi hu => h3 (i + 1) y u (by simpa using hi) (by simpa using hu)⟩
            simp only [builtin, Builtin.min_, Sem.run_bind, this, Result.andThen_ok, Sem.run_pure]
        · cases hn
    · cases h
  · cases h
end
end Go.Ab

/- Calls of functions; every operation. -/
namespace Go.Ab
open Go

/-- What the program must be like. -/
structure Fit (P : Program) : Prop where
  mixed : P.follows .mixedOrders = true
  name : ∀ (g : FuncId) (fn : Func), P.funcs[g]? = some fn → fn.body.isSome = true → (fn.name == "runtime.NumGoroutine") = false
section
variable {E : Env} {call : Cfg → Option Out} {c : Cfg} {o : Oper} {G : Gh} {m M : Mem} {w : World}
theorem glue_dom {m' : Mem} {id : Nat} (h : m'.length ≤ id) : (m' ++ M.drop m'.length)[id]? = M[id]? := by
  rw [List.getElem?_append_right h, List.getElem?_drop]
  congr 1
  omega
theorem prefixR {m m' : Mem} {x : Option OpOut} {r : OpOut} (h : prefixK (resA call) m m' x = some r) : m <+: m' ∧ x = some r := by
  unfold prefixK at h
  split at h
  · rename_i hp
    exact ⟨hp, h⟩
  · cases h
/-- A call of a function value goes into the function. -/
theorem run_enter (hF : Fit E.P) {cl : Call} {f : Operand} (ho : o.op = .call cl) (hc : cl.callee = .value f) {g : FuncId} {fs cs : Array Value} {a : Act} (hf : a.eval f = .func (.func g) fs cs) (hg : ∃ fn, E.P.funcs[g]? = some fn ∧ fn.body.isSome = true) (w : World) :
    (execOp a.eval o).run E.P w = .ok (.enter g (fs ++ cl.args.map a.eval ++ cs)) w := by
  obtain ⟨fn, h1, h2⟩ := hg
  have h3 := hF.name g fn h1 h2
  have h4 : fn.body.isNone = false := by
    cases hb : fn.body with
    | none => rw [hb] at h2; cases h2
    | some _ => rfl
  unfold execOp
  rw [ho]
  have h5 : fn.name ≠ "runtime.NumGoroutine" := by simpa using h3
  have h6 : fn.body ≠ none := by
    intro hb
    rw [hb] at h4
    cases h4
  simp [resolve, hc, Deferred.ofValue, hf, invoke, callFunc, h1, h5, h6]
theorem args_r {first caps : List CV} {fs cs : Array Value} {args : List TE} {vs : Array Value} (hf : first.length = fs.size) (hc : caps.length = cs.size) (h1 : ∀ (i : Nat) x y, first[i]? = some x → fs[i]? = some y → CR G M w x y) (h2 : ∀ (i : Nat) x y, caps[i]? = some x → cs[i]? = some y → CR G M w x y)
    (ha : ArgsR G M w args vs) : ArgsR G M w (first.map .c ++ args ++ caps.map .c) (fs ++ vs ++ cs) := by
  refine ⟨by simp [hf, hc, ha.1], fun i x v hi hv => ?_⟩
  rw [List.append_assoc] at hi
  rw [Array.append_assoc] at hv
  rw [List.getElem?_append] at hi
  rw [Array.getElem?_append] at hv
  simp only [List.length_map] at hi
  by_cases c1 : i < first.length
  · rw [if_pos c1] at hi
    rw [if_pos (by omega)] at hv
    simp only [List.getElem?_map, Option.map_eq_some_iff] at hi
    obtain ⟨y, hy, rfl⟩ := hi
    exact .c (h1 i y v hy hv)
  · rw [if_neg c1] at hi
    rw [if_neg (by omega)] at hv
    rw [List.getElem?_append] at hi
    rw [Array.getElem?_append] at hv
    by_cases c2 : i - first.length < args.length
    · rw [if_pos c2] at hi
      rw [if_pos (by rw [← ha.1, ← hf]; exact c2)] at hv
      rw [hf] at hi
      exact ha.2 _ x v hi hv
    · rw [if_neg c2] at hi
      rw [if_neg (by rw [← ha.1, ← hf]; exact c2)] at hv
      simp only [List.getElem?_map, Option.map_eq_some_iff] at hi
      obtain ⟨y, hy, rfl⟩ := hi
      rw [hf, ha.1] at hy
      exact .c (h2 _ y v hy hv)
theorem op_call (hF : Fit E.P) (hcall : ∀ g args m out, ansR E call g args m = some out → CallsOk E.P g args m out) {cl : Call} {f : Operand} (ho : o.op = .call cl) (hc : cl.callee = .value f) {r : OpOut} (h : opR E call c o = some r) : OpSound E.P c o r := by
  unfold opR opK at h
  rw [ho] at h
  simp only [hc] at h
  obtain ⟨as, has, h2⟩ := takeE_v h
  clear h
  unfold callD at h2
  split at h2
  case h_2 => cases h2
  rename_i tv g first caps hclo
  -- what the operands are
  have hops : ∀ {G : Gh} {M : Mem} {w : World} {a : Act}, OperR G M w c o a → ∃ fs cs, a.eval f = .func (.func g) fs cs ∧ ArgsR G M w (first.map .c ++ as ++ caps.map .c) (fs ++ cl.args.map a.eval ++ cs) := by
    intro G M w a hx
    have hf := hx f (by simp [ho, Op.operands, Call.operands, hc])
    have hargs := opsR (G := G) (M := M) (w := w) (l := c.tmps) (a := a) (xs := cl.args) fun x hx' => hx x (by simp [ho, Op.operands, Call.operands, hc, Array.mem_toList_iff.1 hx'])
    have hl := congrArg List.length has
    simp only [List.length_map, Array.length_toList] at hl
    rw [has] at hargs
    rw [hclo] at hf
    generalize a.eval f = u at hf
    cases te_c (tv_e hf) with
    | clo l1 l2 h3 h4 => exact ⟨_, _, rfl, args_r l1 l2 h3 h4 ⟨by simp [hl], fun i x v hi hv => tv_e (hargs i _ v (by simp [hi]) hv)⟩⟩
  generalize hA : first.map TE.c ++ as ++ caps.map TE.c = A at h2 hops
  unfold callK at h2
  split at h2
  · -- apart from memory
    unfold callI at h2
    obtain ⟨pa, hpa, h3⟩ := bindR h2
    rw [askK_ans] at h3
    obtain ⟨out, hout, h4⟩ := Option.bind_eq_some_iff.1 h3
    have hok := hcall _ _ _ _ hout
    clear h2 h3
    split at h4
    · rename_i tv' htv
      obtain ⟨v', hv', h5⟩ := bindR h4
      rcases condR h5 with ⟨_, h6⟩ | ⟨hno, h6⟩
      · cases h6
      obtain ⟨h7, _⟩ := typedK_v h6
      clear h4 h5 h6
      cases h7
      exact
        { keeps := .refl _
          miss := fun _ _ _ _ => rfl
          al := fun _ _ => rfl
          wa := .inl rfl
          ids := fun G M w a hx id hid => by
            rcases hid with hid | hid
            · simp only [Foot.reads, List.mem_map] at hid
              obtain ⟨x, hx', e⟩ := hid
              obtain ⟨fs, cs, _, hargs⟩ := hops hx
              obtain ⟨i, hi⟩ := List.getElem?_of_mem hx'
              have hlt : i < (fs ++ cl.args.map a.eval ++ cs).size := by rw [← hargs.1]; exact (List.getElem?_eq_some_iff.1 hi).1
              exact idOf_live (.e (hargs.2 i x _ hi (Array.getElem?_eq_getElem hlt))) e
            · cases hid
          run := fun Q G M w a hR hx ha hN next hn => by
            obtain ⟨fs, cs, hfe, hargs⟩ := hops hx
            unfold Oper.wp
            rw [run_enter hF ho hc hfe hok.fn w]
            have hpaM := frzArgs_up (M := M) hpa (fun _ x hx' => agree_up ha (.inl (by
              simp only [Foot.reads, List.mem_map]
              exact ⟨x, hx', rfl⟩))) hN
            refine (calls_iso hR hpaM hargs hok).mono fun e w' hq => ?_
            cases e with
            | returned u =>
              obtain ⟨tv1, h8, h9, h10⟩ := hq
              rw [htv] at h8
              cases h8
              exact hn G M w' u (.same ha) (Ev.junk h9) (hR.junk h9) (h10 v' hv' hno)
            | panicked ch =>
              obtain ⟨pv, h8, _⟩ := hq
              rw [htv] at h8
              cases h8
            | outgrown => exact hq.elim }
    · rename_i pv hpv
      rcases condR h4 with ⟨_, h5⟩ | ⟨hlog, h5⟩
      · cases h5
      cases h5
      refine ⟨hlog, .refl _, fun Q G w a hR hx next hn => ?_⟩
      obtain ⟨fs, cs, hfe, hargs⟩ := hops hx
      unfold Oper.wp
      rw [run_enter hF ho hc hfe hok.fn w]
      refine (calls_iso hR hpa hargs hok).mono fun e w' hq => ?_
      cases e with
      | returned u =>
        obtain ⟨tv1, h8, _⟩ := hq
        rw [hpv] at h8
        cases h8
      | panicked ch =>
        obtain ⟨pv', h8, rfl, h9⟩ := hq
        rw [hpv] at h8
        cases h8
        exact hn G w' pv rfl (Ev.junk h9) (hR.junk h9)
      | outgrown => exact hq.elim
  · -- reading
    unfold callR at h2
    rw [askK_ans] at h2
    obtain ⟨⟨res, m'⟩, hout, h4⟩ := Option.bind_eq_some_iff.1 h2
    have hok := hcall _ _ _ _ hout
    clear h2
    split at h4
    · rename_i tv' htv
      simp only at htv
      subst htv
      obtain ⟨v', hv', h5⟩ := bindR h4
      obtain ⟨hpre, h6⟩ := prefixR h5
      obtain ⟨h7, _⟩ := typedK_v h6
      clear h4 h5 h6
      cases h7
      exact
        { keeps := .refl _
          miss := fun _ _ _ _ => rfl
          al := fun _ _ => rfl
          wa := .inl rfl
          ids := fun _ _ _ _ _ _ h => by simp at h
          run := fun Q G M w a hR hx ha hN next hn => by
            obtain ⟨fs, cs, hfe, hargs⟩ := hops hx
            obtain ⟨hp1, hp2⟩ := ha.all (.inl rfl)
            unfold Oper.wp
            rw [run_enter hF ho hc hfe hok.fn w]
            refine (calls_read hR ⟨hp1, hp2⟩ hargs hok hpre hv').mono fun e w' hq => ?_
            cases e with
            | returned u => exact hn G M w' u (.same ha) hq.1 hq.2.1 hq.2.2
            | panicked ch => exact hq.elim
            | outgrown => exact hq.elim }
    · rename_i pv hpv
      rcases condR h4 with ⟨_, h5⟩ | ⟨hlog, h5⟩
      · cases h5
      cases h5
      refine ⟨hlog, hok.keeps, fun Q G w a hR hx next hn => ?_⟩
      obtain ⟨fs, cs, hfe, hargs⟩ := hops hx
      unfold Oper.wp
      rw [run_enter hF ho hc hfe hok.fn w]
      refine (hok.run G w _ hR hargs).mono fun e w' hq => ?_
      cases e with
      | returned u =>
        obtain ⟨tv1, G', h8, _⟩ := hq
        rw [hpv] at h8
        cases h8
      | panicked ch =>
        obtain ⟨pv', G', h8, rfl, h9, h10⟩ := hq
        rw [hpv] at h8
        cases h8
        exact hn G' w' pv rfl h9 h10
      | outgrown => exact hq.elim
  · -- reading and making
    unfold callA at h2
    rw [askK_ans] at h2
    obtain ⟨⟨res, m'⟩, hout, h4⟩ := Option.bind_eq_some_iff.1 h2
    have hok := hcall _ _ _ _ hout
    clear h2
    split at h4
    · rename_i tv' htv
      simp only at htv
      subst htv
      obtain ⟨hpre, h6⟩ := prefixR h4
      obtain ⟨h7, _⟩ := typedK_v h6
      clear h4 h6
      cases h7
      have hmiss : ∀ id, id < c.mem.length → m'[id]? = c.mem[id]? := by
        intro id hid
        obtain ⟨t, rfl⟩ := hpre
        exact List.getElem?_append_left hid
      exact
        { keeps := hok.keeps
          miss := fun id hid _ _ => hmiss id hid
          al := fun h => by cases h
          wa := .inl rfl
          ids := fun _ _ _ _ _ _ h => by simp at h
          run := fun Q G M w a hR hx ha hN next hn => by
            obtain ⟨fs, cs, hfe, hargs⟩ := hops hx
            obtain ⟨hp1, hp2⟩ := ha.all (.inl rfl)
            unfold Oper.wp
            rw [run_enter hF ho hc hfe hok.fn w]
            refine (calls_mem hR ⟨hp1, hp2⟩ hargs hok ha.len).mono fun e w' hq => ?_
            cases e with
            | returned u =>
              obtain ⟨tv1, G', h8, h9, h10, h11⟩ := hq
              cases h8
              refine hn G' _ w' u ⟨?_, fun id ob _ hob => glue_mem hob, fun id ht => ?_, fun id hid => glue_dom hid⟩ h9 h10 h11
              · have hl : m'.length ≤ M.length := ha.len
                simp only [List.length_append, List.length_drop]
                omega
              · rw [List.getElem?_append]
                split
                · rename_i hlt
                  have hid : id < c.mem.length := by
                    rcases Nat.lt_or_ge id c.mem.length with h | h
                    · exact h
                    · exact absurd (.inr (.inr ⟨h, hlt⟩)) ht
                  rw [hmiss id hid, List.getElem?_eq_getElem hid]
                  exact (hp1 id _ (List.getElem?_eq_getElem hid)).symm
                · rw [List.getElem?_drop]
                  congr 1
                  omega
            | panicked ch =>
              obtain ⟨pv, G', h8, _⟩ := hq
              cases h8
            | outgrown => exact hq.elim }
    · rename_i pv hpv
      rcases condR h4 with ⟨_, h5⟩ | ⟨hlog, h5⟩
      · cases h5
      cases h5
      refine ⟨hlog, hok.keeps, fun Q G w a hR hx next hn => ?_⟩
      obtain ⟨fs, cs, hfe, hargs⟩ := hops hx
      unfold Oper.wp
      rw [run_enter hF ho hc hfe hok.fn w]
      refine (hok.run G w _ hR hargs).mono fun e w' hq => ?_
      cases e with
      | returned u =>
        obtain ⟨tv1, G', h8, _⟩ := hq
        rw [hpv] at h8
        cases h8
      | panicked ch =>
        obtain ⟨pv', G', h8, rfl, h9, h10⟩ := hq
        rw [hpv] at h8
        cases h8
        exact hn G' w' pv rfl h9 h10
      | outgrown => exact hq.elim
  · -- writing
    unfold callW at h2
    rw [askK_ans] at h2
    obtain ⟨⟨res, m'⟩, hout, h4⟩ := Option.bind_eq_some_iff.1 h2
    have hok := hcall _ _ _ _ hout
    clear h2
    split at h4
    · rename_i tv' htv
      simp only at htv
      subst htv
      obtain ⟨h7, _⟩ := typedK_v h4
      clear h4
      cases h7
      exact
        { keeps := hok.keeps
          miss := fun id hid _ h => by cases h
          al := fun _ h => by cases h
          wa := .inr rfl
          ids := fun _ _ _ _ _ _ h => by simp at h
          run := fun Q G M w a hR hx ha hN next hn => by
            obtain ⟨fs, cs, hfe, hargs⟩ := hops hx
            obtain ⟨hp1, hp2⟩ := ha.all (.inr rfl)
            unfold Oper.wp
            rw [run_enter hF ho hc hfe hok.fn w]
            refine (calls_mem hR ⟨hp1, hp2⟩ hargs hok ha.len).mono fun e w' hq => ?_
            cases e with
            | returned u =>
              obtain ⟨tv1, G', h8, h9, h10, h11⟩ := hq
              cases h8
              refine hn G' _ w' u ⟨?_, fun id ob _ hob => glue_mem hob, fun id ht => ?_, fun id hid => glue_dom hid⟩ h9 h10 h11
              · have hl : m'.length ≤ M.length := ha.len
                simp only [List.length_append, List.length_drop]
                omega
              · rw [List.getElem?_append]
                split
                · rename_i hlt
                  exfalso
                  refine ht (.inr ?_)
                  rcases Nat.lt_or_ge id c.mem.length with h | h
                  · exact .inl ⟨rfl, h⟩
                  · exact .inr ⟨h, hlt⟩
                · rw [List.getElem?_drop]
                  congr 1
                  omega
            | panicked ch =>
              obtain ⟨pv, G', h8, _⟩ := hq
              cases h8
            | outgrown => exact hq.elim }
    · rename_i pv hpv
      rcases condR h4 with ⟨_, h5⟩ | ⟨hlog, h5⟩
      · cases h5
      cases h5
      refine ⟨hlog, hok.keeps, fun Q G w a hR hx next hn => ?_⟩
      obtain ⟨fs, cs, hfe, hargs⟩ := hops hx
      unfold Oper.wp
      rw [run_enter hF ho hc hfe hok.fn w]
      refine (hok.run G w _ hR hargs).mono fun e w' hq => ?_
      cases e with
      | returned u =>
        obtain ⟨tv1, G', h8, _⟩ := hq
        rw [hpv] at h8
        cases h8
      | panicked ch =>
        obtain ⟨pv', G', h8, rfl, h9, h10⟩ := hq
        rw [hpv] at h8
        cases h8
        exact hn G' w' pv rfl h9 h10
      | outgrown => exact hq.elim
/-- Every operation. -/
theorem op_sound (hF : Fit E.P) (hcall : ∀ g args m out, ansR E call g args m = some out → CallsOk E.P g args m out) {r : OpOut} (h : opR E call c o = some r) : OpSound E.P c o r := by
  have h0 := h
  cases ho : o.op with
  | move x => exact op_move ho h
  | assign x => exact op_assign ho h
  | pick x y z => exact op_pick ho h
  | alloc e => exact op_alloc ho h
  | box e x => exact op_box ho h
  | build t p => exact op_build ho h
  | buildSlice t l p => exact op_buildSlice ho h
  | load t x => exact op_load ho h
  | store t x y => exact op_store ho h
  | nilCheck x => exact op_nilCheck ho h
  | binOp op t x y t' => exact op_binOp ho h
  | unOp op t x => exact op_unOp ho h
  | convert s d x => exact op_convert ho h
  | makeInterface t x => exact op_makeInterface ho h
  | makeFunc f x y =>
    cases f with
    | func g => exact op_makeFunc ho h
    | _ => unfold opR opK at h; rw [ho] at h; cases h
  | makeSlice t x y => exact op_makeSlice ho h
  | slice t x l h' m' =>
    cases m' with
    | none => exact op_slice ho h
    | some m' =>
      cases l with
      | none =>
        cases h' with
        | none => unfold opR opK at h; rw [ho] at h; cases h
        | some h' => exact op_clip ho h
      | some l => unfold opR opK at h; rw [ho] at h; cases h
  | fieldAddr t x i => exact op_fieldAddr ho h
  | field t x i => exact op_field ho h
  | indexAddr t x y => exact op_indexAddr ho h
  | index t x y => exact op_index ho h
  | extract x i => exact op_extract ho h
  | panic x => exact op_panic ho h
  | call cl =>
    cases hc : cl.callee with
    | builtin b =>
      unfold opR opK at h
      rw [ho] at h
      simp only [hc] at h
      exact op_builtin ho hc h
    | value f => exact op_call hF hcall ho hc h
    | invoke x n => unfold opR opK at h; rw [ho] at h; simp only [hc] at h; cases h
  | _ => unfold opR opK at h; rw [ho] at h; cases h
end
end Go.Ab

/- Runs: where one leads; what a function answers. -/
namespace Go.Ab
open Go

/-- Where a frame's rest leads. -/
def RunsTo (P : Program) (b : Frame) (a : Act) (todo : List Item) (w : World) (R : Ending → World → Prop) : Prop :=
  ∀ cs, ∃ e w' fr, R e w' ∧ Comes P (lone (b.at a todo) cs w) (lone fr cs w') e ∧ fr.fn = b.fn ∧ fr.leaving P w' e
section
variable {P : Program} {b : Frame} {a a' : Act} {k k' : List Item} {w w' : World} {R : Ending → World → Prop}
theorem RunsTo.step (hs : ∀ cs, step P (lone (b.at a k) cs w) = .next (lone (b.at a' k') cs w')) (h : RunsTo P b a' k' w' R) : RunsTo P b a k w R := fun cs =>
  let ⟨e, w₂, fr, hR, hc, hf, hl⟩ := h cs
  ⟨e, w₂, fr, hR, .of_steps (.one (hs cs)) hc, hf, hl⟩
/-- What a region leads to. -/
def Qr (P : Program) (b : Frame) (k : List Item) (R : Ending → World → Prop) : Exit → Act → World → Prop
  | .normal, a, w => RunsTo P b a k w R
  | .panic ch, a, w => a.defers = [] ∧ (∃ fn, P.funcs[b.fn]? = some fn) ∧ R (.panicked ch) w
  | _, _, _ => False
theorem RunsTo.region {id : Nat} {ops : Array Oper} {d : Bool} (h : (Code.region id ops d).wp P (Qr P b k R) a w) : RunsTo P b a (.code (.region id ops d) :: k) w R := by
  intro cs
  obtain ⟨e, a', w', hq, harr⟩ := h b k cs
  cases e with
  | normal =>
    obtain ⟨e₂, w₂, fr, hR, hc, hf, hl⟩ := hq cs
    exact ⟨e₂, w₂, fr, hR, .of_steps harr hc, hf, hl⟩
  | panic ch =>
    obtain ⟨hd, hfn, hR⟩ := hq
    obtain ⟨todo, hs⟩ := harr
    exact ⟨.panicked ch, w', _, hR, hs, rfl, rfl, hd, hfn⟩
  | exit id => exact hq.elim
  | goto l => exact hq.elim
  | ret => exact hq.elim
  | outgrown => exact hq.elim
/-- A function's answer. -/
theorem RunsTo.ret (hk : b.kind = .normal) (hd : a.defers = []) {fn : Func} (hf : P.funcs[b.fn]? = some fn) {v : Value} (hr : (results fn a.tmps).run P w = .ok v w) (hR : R (.returned v) w) (ht : k = [] ∨ ∃ k', k = .code .ret :: k') : RunsTo P b a k w R := by
  intro cs
  rcases ht with rfl | ⟨k', rfl⟩
  · exact ⟨.returned v, w, _, hR, .one step_end, rfl, rfl, hd, hk, fn, hf, hr⟩
  · exact ⟨.returned v, w, _, hR, .one step_ret, rfl, rfl, hd, hk, fn, hf, hr⟩

variable {f g : Cfg → Option Out}
theorem bindO {α : Type} {x : Option α} {k : α → Option Out} {r : Out} (h : (optA f g).bind x k = some r) : ∃ y, x = some y ∧ k y = some r := by
  cases x with
  | none => cases h
  | some y => exact ⟨y, rfl, h⟩
theorem takeE_o : ∀ {l : List TV} {k : List TE → Option Out} {r : Out}, takeE (optA f g) l k = some r → ∃ xs, l = xs.map TV.e ∧ k xs = some r
  | [], k, r, h => ⟨[], rfl, h⟩
  | x :: l, k, r, h => by
    obtain ⟨y, hy, h2⟩ := bindO h
    obtain ⟨xs, rfl, h3⟩ := takeE_o h2
    exact ⟨y :: xs, by simp [asE_v hy], h3⟩
def resOf (tmps : Array Value) : ResultVar → Sem Value
  | .tmp t => pure (tmps.getD t undef)
  | .cell a t => do loadVar t (← asAddr (tmps.getD a undef))
theorem results_eq (fn : Func) (tmps : Array Value) : results fn tmps = (do
    let vs ← fn.results.mapM (resOf tmps)
    pure (if h : vs.size = 1 then vs[0] else .tuple vs)) := rfl
theorem loads_r {G : Gh} {m : Mem} {l : List TV} {a : Act} (hR : Rel G m w) (ht : TmR G m w l a.tmps) : ∀ {rs : List ResultVar} {kk : List TV → Option Out} {r : Out}, loadsK (optA f g) P l m rs kk = some r →
    ∃ (vs : List TV) (us : List Value), kk vs = some r ∧ vs.length = us.length ∧ (∀ (i : Nat) x u, vs[i]? = some x → us[i]? = some u → TVR G m w x u) ∧ (rs.mapM (resOf a.tmps)).run P w = .ok us w
  | [], kk, r, h => ⟨[], [], h, rfl, (fun i x u hi => by simp at hi), by simp⟩
  | .tmp t :: rs, kk, r, h => by
    obtain ⟨vs, us, h1, h2, h3, h4⟩ := loads_r hR ht (rs := rs) h
    refine ⟨getT l t :: vs, a.tmps.getD t undef :: us, h1, by simp [h2], fun i x u hi hu => ?_, ?_⟩
    · cases i with
      | zero =>
        cases hi
        cases hu
        exact ev_r ht (.tmp t)
      | succ i => exact h3 i x u (by simpa using hi) (by simpa using hu)
    · simp [List.mapM_cons, resOf, h4]
  | .cell c t :: rs, kk, r, h => by
    obtain ⟨d, hd, h5⟩ := bindO h
    obtain ⟨te, hte, h6⟩ := bindO h5
    obtain ⟨vs, us, h1, h2, h3, h4⟩ := loads_r hR ht (rs := rs) h6
    obtain ⟨u, hu, hr, gg, oo, hv⟩ := run_aload hR hd hte (ev_r ht (.tmp c))
    refine ⟨.e te :: vs, u :: us, h1, by simp [h2], fun i x u' hi hu' => ?_, ?_⟩
    · cases i with
      | zero =>
        cases hi
        cases hu'
        exact .e hr
      | succ i => exact h3 i x u' (by simpa using hi) (by simpa using hu')
    · have hv' : a.tmps.getD c undef = .pointer (some (cellAt gg oo)) := hv
      rw [show a.eval (.tmp c) = a.tmps.getD c undef from rfl, hv'] at hu
      have : (loadVar t (cellAt gg oo)).run P w = .ok u w := by simpa [Instr.loadAt, Instr.sureAddr] using hu
      simp [List.mapM_cons, resOf, h4, hv', asAddr, this]
def retTV : List TE → TV
  | [x] => .e x
  | xs => .t xs
theorem retO_eq (xs : List TE) (m : Mem) : retO xs m = (.ret (retTV xs), m) := by
  match xs with
  | [] => rfl
  | [x] => rfl
  | x :: y :: xs => rfl
theorem retA_r {E : Env} {c : Cfg} {o : Out} (h : retA (optA f g) E c = some o) {G : Gh} {a : Act} (hR : Rel G c.mem w) (ht : TmR G c.mem w c.tmps a.tmps) :
    o.2 = c.mem ∧ ∃ fn tv v, E.P.funcs[c.fn]? = some fn ∧ o.1 = .ret tv ∧ (results fn a.tmps).run E.P w = .ok v w ∧ TVR G c.mem w tv v := by
  unfold retA at h
  split at h
  · rename_i fn hfn
    obtain ⟨vs, us, h1, h2, h3, h4⟩ := loads_r hR ht h
    obtain ⟨xs, rfl, h5⟩ := takeE_o h1
    cases h5
    have hl : xs.length = us.length := by simpa using h2
    have hx : ∀ (i : Nat) x u, xs[i]? = some x → us[i]? = some u → TER G c.mem w x u := fun i x u hi hu => tv_e (h3 i _ u (by simp [hi]) hu)
    have hres : (results fn a.tmps).run E.P w = .ok (if h : us.toArray.size = 1 then us.toArray[0] else .tuple us.toArray) w := by
      rw [results_eq, Array.mapM_eq_mapM_toList]
      simp only [Sem.run_bind, Sem.run_map, h4, Result.andThen_ok, Sem.run_pure]
    rw [retO_eq]
    refine ⟨rfl, fn, retTV xs, _, hfn, rfl, hres, ?_⟩
    clear hres h1 h h2 h3 h4
    match xs, us, hl, hx with
    | [], [], _, _ => exact .t rfl fun i x u hi => by simp at hi
    | [x], [u], _, hx => exact .e (hx 0 x u rfl rfl)
    | x :: y :: xs, u :: v :: us, hl, hx =>
      have : ¬ ((u :: v :: us).toArray.size = 1) := by simp
      rw [dif_neg this]
      exact .t (by simpa using hl) fun i z q hi hq => hx i z q hi (by simpa using hq)
  · cases h
end
end Go.Ab

/- A region whose order is the text's. -/
namespace Go.Ab
open Go

/-- Is an operation wanted? -/
def wantA (rops : Array Oper) (o : Oper) (t : List TV) : Option Bool := match o.guard with
  | none => some true
  | some (j, want) => match (rops[j]?).bind (·.dst) with
    | none => none
    | some d => match getT t d with
      | .t _ => some false
      | .bad => none
      | .e v => match asB (.e v) with
        | some b => some (b == want)
        | none => none
theorem set_same {l : List TV} {d : Nat} {v : TV} (h : getT l d = v) (hv : v ≠ unitT) : l.set d v = l := by
  unfold getT at h
  split at h
  · rename_i x hx
    subst h
    refine List.ext_getElem? fun i => ?_
    rw [List.getElem?_set]
    split
    · rename_i hi
      subst hi
      rw [if_pos (List.getElem?_eq_some_iff.1 hx).1, hx]
    · rfl
  · exact absurd h.symm hv
theorem setGuard_eq {c : Cfg} {j d : Nat} {b : Bool} (hd : (c.rops[j]?).bind (·.dst) = some d) (h : getT c.tmps d = mkB b) : setGuard c j b = c := by
  unfold setGuard
  rw [hd]
  simp only
  rw [set_same h (by intro h; cases h)]
/-- A step in a region. -/
theorem step_oper {E : Env} {call cont : Cfg → Option Out} {c : Cfg} {o : Oper} {rest : List Oper} (hc : c.ops = o :: rest) :
    stp E call cont c = match wantA c.rops o c.tmps with
      | none => none
      | some false => cont { c with ops := rest, tmps := putT c.tmps o.dst unitT, log := c.log.map (· ++ [.nil]) }
      | some true => (opR E call c o).bind (OpOut.fin fun v m ft => cont { c with ops := rest, tmps := putT c.tmps o.dst v, mem := m, log := c.log.map (· ++ [ft]) }) := by
  unfold stp stepK
  rw [hc]
  dsimp only
  unfold wantA
  cases hg : o.guard with
  | none =>
    dsimp only
    rw [opK_val]
    rfl
  | some jw =>
    obtain ⟨j, want⟩ := jw
    dsimp only
    cases hd : (c.rops[j]?).bind (·.dst) with
    | none => rfl
    | some d =>
      dsimp only
      cases ht : getT c.tmps d with
      | t xs => rfl
      | bad => rfl
      | e v =>
        dsimp only
        cases hb : asB (.e v) with
        | none => rfl
        | some b =>
          have hv : TV.e v = mkB b := asB_mk hb
          rw [hv] at ht
          have hs := setGuard_eq hd ht
          show (cond b (cond want _ _) (cond want _ _)) = _
          cases b <;> cases want <;> simp only [cond_true, cond_false, hs, beq_self_eq_true, Bool.false_beq, Bool.true_beq, Bool.not_false, Bool.not_true] <;> first | rfl | (rw [opK_val]; rfl)
theorem wanted_r {G : Gh} {m : Mem} {w : World} {rops : Array Oper} {o : Oper} {t : List TV} {a : Act} {b : Bool} (h : wantA rops o t = some b) (ht : ∀ d, (∃ j want, o.guard = some (j, want) ∧ (rops[j]?).bind (·.dst) = some d) → TVR G m w (getT t d) (a.tmps.getD d undef)) :
    Region.wanted o (yielded rops a.tmps) = b := by
  unfold wantA at h
  unfold Region.wanted
  split at h
  · rename_i hg
    rw [hg]
    cases h
    rfl
  · rename_i j want hg
    rw [hg]
    dsimp only
    split at h
    · cases h
    · rename_i d hd
      have hr := ht d ⟨j, want, hg, hd⟩
      have hy : yielded rops a.tmps j = match a.tmps[d]? with | some (.bool b) => some b | _ => none := by
        unfold yielded
        rw [hd]
        rfl
      rw [hy]
      split at h
      · rename_i xs hx
        cases h
        rw [hx] at hr
        cases ha : a.tmps[d]? with
        | none => simp
        | some v =>
          rw [Array.getD_eq_getD_getElem?, ha] at hr
          cases hr with
          | t => simp
      · cases h
      · rename_i v hx
        split at h
        · rename_i b' hb
          cases h
          rw [hx, asB_mk hb] at hr
          have hv := tv_pc hr
          cases ha : a.tmps[d]? with
          | none => rw [Array.getD_eq_getD_getElem?, ha] at hv; cases hv
          | some u =>
            rw [Array.getD_eq_getD_getElem?, ha] at hv
            cases hv
            cases b' <;> cases want <;> rfl
        · cases h
/-- Room for new objects. -/
theorem Rel.pad {G : Gh} {m : Mem} {w : World} (h : Rel G m w) : ∀ k, ∃ G', Ev G m w G' (m ++ List.replicate k AObj.none) w ∧ Rel G' (m ++ List.replicate k AObj.none) w
  | 0 => ⟨G, by simpa using Ev.refl G m w, by simpa using h⟩
  | k + 1 => by
    obtain ⟨G', h1, h2⟩ := h.pad k
    obtain ⟨h3, h4⟩ := h2.room
    refine ⟨⟨G'.at_ ++ [Option.none], G'.hid⟩, ?_, ?_⟩
    · have := h1.trans h3
      rw [List.replicate_succ', ← List.append_assoc]
      exact this
    · rw [List.replicate_succ', ← List.append_assoc]
      exact h4
theorem pad_get {m : Mem} {k id : Nat} {o : AObj} (h : (m ++ List.replicate k AObj.none)[id]? = some o) : m[id]? = some o ∨ m.length ≤ id ∧ o = AObj.none := by
  rw [List.getElem?_append] at h
  split at h
  · exact .inl h
  · rename_i hl
    rw [List.getElem?_replicate] at h
    split at h
    · cases h
      exact .inr ⟨by omega, rfl⟩
    · cases h
/-- An operation carried out in the text's order. -/
theorem op_plain {P : Program} {c : Cfg} {o : Oper} {v : TV} {m' : Mem} {ft : Foot} (h : OpOk P c o v m' ft) {Q : Exit → Act → World → Prop} {G : Gh} {w : World} {a : Act} (hR : Rel G c.mem w) (ht : TmR G c.mem w c.tmps a.tmps) {next : Act → World → Prop}
    (hn : ∀ G' w' u, Ev G c.mem w G' m' w' → Rel G' m' w' → TVR G' m' w' v u → next (a.put o.dst u) w') : o.wp P a w next Q := by
  have hle := h.keeps.le
  obtain ⟨G₁, e1, r1⟩ := hR.pad (m'.length - c.mem.length)
  have hW : Whole c.mem (c.mem ++ List.replicate (m'.length - c.mem.length) AObj.none) := fun id ob hob => by
    rw [List.getElem?_append_left (List.getElem?_eq_some_iff.1 hob).1]
    exact hob
  have ha : Agree ft c.mem m' (c.mem ++ List.replicate (m'.length - c.mem.length) AObj.none) :=
    { len := by simp; omega
      le := hle
      rd := fun id ob _ hob => hW id ob hob
      wr := fun id ob _ hob => hW id ob hob
      all := fun _ => ⟨hW, fun id ob hid hob => by
        rcases pad_get hob with h1 | ⟨_, rfl⟩
        · have := (List.getElem?_eq_some_iff.1 h1).1
          omega
        · rfl⟩
      ks := fun id ob ob' h1 h2 _ => by
        rw [hW id ob h1] at h2
        cases h2
        rfl
      new := fun id h1 h2 => ⟨AObj.none, by
        rw [List.getElem?_append_right h1, List.getElem?_replicate, if_pos (by omega)], rfl⟩ }
  refine h.run Q G₁ _ w a r1 (fun x _ => e1.tvr (ev_r ht x)) ha (fun _ => hW) next fun G' M' w' u hM hev hrl hv => ?_
  have hM' : M' = m' := by
    refine List.ext_getElem? fun id => ?_
    have hlen : M'.length = m'.length := by rw [hM.len]; simp; omega
    rcases Nat.lt_or_ge id m'.length with hid | hid
    · by_cases htc : touched ft c.mem m' id
      · rw [hM.hit id _ htc (List.getElem?_eq_getElem hid), List.getElem?_eq_getElem hid]
      · rw [hM.miss id htc]
        have hlt : id < c.mem.length := by
          rcases Nat.lt_or_ge id c.mem.length with h1 | h1
          · exact h1
          · exact absurd (.inr (.inr ⟨h1, hid⟩)) htc
        rw [List.getElem?_append_left hlt]
        refine (h.miss id hlt (fun hh => htc (.inl hh)) ?_).symm
        cases hwa : ft.wrAll with
        | none => rfl
        | some p => exact absurd (.inr (.inl ⟨by rw [hwa]; rfl, hlt⟩)) htc
    · rw [List.getElem?_eq_none hid, List.getElem?_eq_none (by omega)]
  subst hM'
  exact hn G' w' u (e1.trans hev) hrl hv
end Go.Ab

/- A run does what it says. -/
namespace Go.Ab
open Go

theorem Post.trans {G G' : Gh} {m m' : Mem} {w w' : World} (h : Ev G m w G' m' w') {o : Out} {e : Ending} {w₂ : World} (hp : Post G' m' w' o e w₂) : Post G m w o e w₂ := by
  cases e with
  | returned u =>
    obtain ⟨tv, G₂, h1, h2, h3, h4⟩ := hp
    exact ⟨tv, G₂, h1, h.trans h2, h3, h4⟩
  | panicked ch =>
    obtain ⟨pv, G₂, h1, h2, h3, h4⟩ := hp
    exact ⟨pv, G₂, h1, h2, h.trans h3, h4⟩
  | outgrown => exact hp
/-- What a configuration runs to is what the machine runs to. -/
structure Sim (P : Program) (c : Cfg) (o : Out) : Prop where
  keeps : Keeps c.mem o.2
  run : c.log = none → ∀ (b : Frame) (G : Gh) (w : World) (a : Act) (R : Ending → World → Prop), b.fn = c.fn → b.kind = .normal → a.defers = [] → (∃ fn, P.funcs[c.fn]? = some fn) → Rel G c.mem w → TmR G c.mem w c.tmps a.tmps → (∀ e w', Post G c.mem w o e w' → R e w') →
    (c.ops = [] → RunsTo P b a c.todo w R) ∧ ∀ i, c.ops = c.rops.toList.drop i → wpOps P c.rops (Qr P b c.todo R) (List.range' i (c.rops.size - i)) a w
/-- A draw region, all at once. -/
def DrawOk (P : Program) (c : Cfg) (o : Out) : Prop :=
  Keeps c.mem o.2 ∧ ∀ (b : Frame) (G : Gh) (w : World) (a : Act) (R : Ending → World → Prop), b.fn = c.fn → b.kind = .normal → a.defers = [] → (∃ fn, P.funcs[c.fn]? = some fn) → Rel G c.mem w → TmR G c.mem w c.tmps a.tmps → (∀ e w', Post G c.mem w o e w' → R e w') →
    wpAny P .any c.rops (Qr P b c.todo R) c.rops.size (Array.replicate c.rops.size false) a w

section
variable {E : Env}
theorem put_defers (a : Act) (d : Option Nat) (v : Value) : (a.put d v).defers = a.defers := by cases d <;> rfl
theorem entry_calls {n : Nat} (hs : ∀ c o, runN E n c = some o → Sim E.P c o) {g : FuncId} {args : List TE} {m : Mem} {out : Out} (h : runN E n (entry E.P g args m) = some out) : CallsOk E.P g args m out := by
  have bad : ∀ {c : Cfg}, c.ops = [] → c.log = none → c.todo = [.beginRound] → runN E n c = some out → False := by
    intro c h1 h2 h3 h4
    cases n with
    | zero => cases h4
    | succ n =>
      simp only [runN, stp, stepK, h1, h2, h3] at h4
      cases h4
  unfold entry at h
  split at h
  · rename_i fn hfn
    split at h
    · rename_i code hb
      have hS := hs _ _ h
      refine ⟨⟨fn, hfn, by rw [hb]; rfl⟩, hS.keeps, fun G w vs hR ha => ?_⟩
      intro cs
      have henter : Frame.enter E.P g vs .normal = ({ (default : Frame) with fn := g, kind := .normal } : Frame).at { tmps := vs ++ Array.replicate (fn.ntmps - vs.size) undef, defers := [] } [.code code] := by
        simp [Frame.enter, Frame.at, hfn, hb]
      rw [henter]
      refine ((hS.run rfl { (default : Frame) with fn := g, kind := .normal } G w { tmps := vs ++ Array.replicate (fn.ntmps - vs.size) undef, defers := [] } _ rfl rfl rfl ⟨fn, hfn⟩ hR ?_ (fun e w' hp => hp)).1 rfl) cs
      refine ⟨by simp [ha.1], fun i x v hi hv => ?_⟩
      rw [List.getElem?_append] at hi
      rw [Array.getElem?_append] at hv
      simp only [List.length_map] at hi
      by_cases c1 : i < args.length
      · rw [if_pos c1] at hi
        rw [if_pos (by rw [← ha.1]; exact c1)] at hv
        simp only [List.getElem?_map, Option.map_eq_some_iff] at hi
        obtain ⟨y, hy, rfl⟩ := hi
        exact .e (ha.2 i y v hy hv)
      · rw [if_neg c1] at hi
        rw [if_neg (by rw [← ha.1]; exact c1)] at hv
        rw [List.getElem?_replicate] at hi
        split at hi
        · cases hi
          rw [Array.getElem?_replicate] at hv
          split at hv
          · cases hv
            exact undefR _ _ _
          · cases hv
        · cases hi
    · exact (bad rfl rfl rfl h).elim
  · exact (bad rfl rfl rfl h).elim
/-- Steps that leave memory and the temporaries alone. -/
theorem Sim.go {c c' : Cfg} {o : Out} (h : Sim E.P c' o) (hm : c'.mem = c.mem) (ht : c'.tmps = c.tmps) (hf : c'.fn = c.fn) (hl : c'.log = none) (ho : c'.ops = []) (hco : c.ops = []) (hcr : c.log = none → ∀ i, c.ops = c.rops.toList.drop i → c.rops.size ≤ i)
    (hs : ∀ (b : Frame) (a : Act) (w : World) (cs : List Frame) (G : Gh), b.fn = c.fn → Rel G c.mem w → TmR G c.mem w c.tmps a.tmps → step E.P (lone (b.at a c.todo) cs w) = .next (lone (b.at a c'.todo) cs w)) : Sim E.P c o where
  keeps := by rw [← hm]; exact h.keeps
  run hlog b G w a R hb hk hd hfn hR htm hp := by
    have h1 : RunsTo E.P b a c.todo w R := by
      refine .step (fun cs => hs b a w cs G hb hR htm) ((h.run hl b G w a R (hb.trans hf.symm) hk hd (by rw [hf]; exact hfn) (by rw [hm]; exact hR) (by rw [hm, ht]; exact htm) (by rw [hm]; exact hp)).1 ho)
    refine ⟨fun _ => h1, fun i hi => ?_⟩
    have : c.rops.size - i = 0 := by have := hcr hlog i hi; omega
    rw [this]
    exact h1
theorem restrict_r {G : Gh} {m : Mem} {w : World} {keep : List Nat} {l : List TV} {a : Array Value} (h : TmR G m w l a) : TmR G m w (restrict keep 0 l) a := by
  have key : ∀ (l : List TV) (i : Nat), (restrict keep i l).length = l.length ∧ ∀ (j : Nat) x, (restrict keep i l)[j]? = some x → x = badT ∨ l[j]? = some x := by
    intro l
    induction l with
    | nil => intro i; exact ⟨rfl, fun j x hx => by simp [restrict] at hx⟩
    | cons v l ih =>
      intro i
      obtain ⟨h1, h2⟩ := ih (i + 1)
      refine ⟨by simp [restrict, h1], fun j x hx => ?_⟩
      cases j with
      | zero =>
        simp only [restrict, List.getElem?_cons_zero, Option.some.injEq] at hx
        cases hc : keep.contains i with
        | true => rw [hc, cond_true] at hx; subst hx; exact .inr rfl
        | false => rw [hc, cond_false] at hx; exact .inl hx.symm
      | succ j => exact h2 j x (by simpa [restrict] using hx)
  obtain ⟨h1, h2⟩ := key l 0
  refine ⟨h1.trans h.len, fun i x v hi hv => ?_⟩
  rcases h2 i x hi with rfl | h3
  · exact .bad _
  · exact h.at_ i x v h3 hv
theorem drop_cons {ops : Array Oper} {o : Oper} {rest : List Oper} {i : Nat} (h : o :: rest = ops.toList.drop i) : ops[i]? = some o ∧ i < ops.size ∧ rest = ops.toList.drop (i + 1) := by
  have h0 : (ops.toList.drop i)[0]? = some o := by rw [← h]; rfl
  rw [List.getElem?_drop, Nat.add_zero] at h0
  have hlt : i < ops.toList.length := (List.getElem?_eq_some_iff.1 h0).1
  refine ⟨by simpa using h0, by simpa using hlt, ?_⟩
  have := congrArg List.tail h
  simpa using this
theorem loadsK_o {f g : Cfg → Option Out} {P : Program} {l : List TV} {m : Mem} : ∀ {rs : List ResultVar} {kk : List TV → Option Out} {r : Out}, loadsK (optA f g) P l m rs kk = some r → ∃ vs, kk vs = some r
  | [], _, _, h => ⟨[], h⟩
  | .tmp t :: rs, kk, r, h => by
    obtain ⟨vs, hv⟩ := loadsK_o (rs := rs) h
    exact ⟨_, hv⟩
  | .cell c t :: rs, kk, r, h => by
    obtain ⟨d, hd, h5⟩ := bindO h
    obtain ⟨te, hte, h6⟩ := bindO h5
    obtain ⟨vs, hv⟩ := loadsK_o (rs := rs) h6
    exact ⟨_, hv⟩
theorem retA_mem {f g : Cfg → Option Out} {c : Cfg} {o : Out} (h : retA (optA f g) E c = some o) : o.2 = c.mem := by
  unfold retA at h
  split at h
  · obtain ⟨vs, hv⟩ := loadsK_o h
    obtain ⟨xs, _, h5⟩ := takeE_o hv
    cases h5
    rw [retO_eq]
  · cases h
/-- All runs. -/
theorem sim_all (hF : Fit E.P) (hext : ∀ g f args m out, E.ext g = some f → f args m = some out → CallsOk E.P g args m out)
    (hdraw : ∀ n, (∀ k, k ≤ n → ∀ c o, runN E k c = some o → Sim E.P c o) → ∀ c o, c.log = some [] → c.ops = c.rops.toList → runN E n c = some o → DrawOk E.P c o) : ∀ n c o, runN E n c = some o → Sim E.P c o := by
  intro n
  induction n using Nat.strongRecOn with
  | _ n IH =>
  intro c o h
  cases n with
  | zero => cases h
  | succ n =>
  have ih : ∀ c o, runN E n c = some o → Sim E.P c o := IH n (Nat.lt_succ_self n)
  have hcall : ∀ g args m out, ansR E (runN E n) g args m = some out → CallsOk E.P g args m out := by
    intro g args m out hans
    unfold ansR at hans
    split at hans
    · rename_i f hf
      exact hext g f args m out hf hans
    · exact entry_calls ih hans
  simp only [runN] at h
  cases hops : c.ops with
  | cons op rest =>
    rw [step_oper hops] at h
    split at h
    · cases h
    · rename_i hw
      have hS := ih _ _ h
      refine ⟨hS.keeps, fun hlog b G w a R hb hk hd hfn hR ht hp => ⟨(fun hh => by rw [hops] at hh; cases hh), fun i hi => ?_⟩⟩
      rw [hops] at hi
      obtain ⟨h1, h2, h3⟩ := drop_cons hi
      have hr : List.range' i (c.rops.size - i) = i :: List.range' (i + 1) (c.rops.size - (i + 1)) := by
        have : c.rops.size - i = (c.rops.size - (i + 1)) + 1 := by omega
        rw [this, List.range'_succ]
      rw [hr]
      simp only [wpOps, h1]
      have hwant := wanted_r (G := G) (m := c.mem) (w := w) (a := a) hw fun d _ => ev_r ht (.tmp d)
      rw [if_neg (by rw [hwant]; simp)]
      have ht' := ht.put op.dst (undefR G c.mem w)
      exact (hS.run (by simp [hlog]) b G w (a.put op.dst undef) R hb hk (by rw [put_defers]; exact hd) hfn hR ht' hp).2 (i + 1) h3
    · rename_i hw
      obtain ⟨r, hr, h2⟩ := Option.bind_eq_some_iff.1 h
      have hos := op_sound hF hcall hr
      cases r with
      | val v m' ft =>
        have hS := ih _ _ h2
        have hos : OpOk E.P c op v m' ft := hos
        refine ⟨hos.keeps.trans hS.keeps, fun hlog b G w a R hb hk hd hfn hR ht hp => ⟨(fun hh => by rw [hops] at hh; cases hh), fun i hi => ?_⟩⟩
        rw [hops] at hi
        obtain ⟨h1, h2', h3⟩ := drop_cons hi
        have hr : List.range' i (c.rops.size - i) = i :: List.range' (i + 1) (c.rops.size - (i + 1)) := by
          have : c.rops.size - i = (c.rops.size - (i + 1)) + 1 := by omega
          rw [this, List.range'_succ]
        rw [hr]
        simp only [wpOps, h1]
        have hwant := wanted_r (G := G) (m := c.mem) (w := w) (a := a) hw fun d _ => ev_r ht (.tmp d)
        rw [if_pos hwant]
        refine .inl (op_plain hos hR ht fun G' w' u hev hrl hv => ?_)
        have ht' := (hev.tm ht).put op.dst hv
        exact (hS.run (by simp [hlog]) b G' w' (a.put op.dst u) R hb hk (by rw [put_defers]; exact hd) hfn hrl ht' fun e w₂ hq => hp e w₂ (hq.trans hev)).2 (i + 1) h3
      | out o' =>
        cases h2
        have hos : OpEnds E.P c op o := hos
        refine ⟨hos.keeps, fun hlog b G w a R hb hk hd hfn hR ht hp => ⟨(fun hh => by rw [hops] at hh; cases hh), fun i hi => ?_⟩⟩
        rw [hops] at hi
        obtain ⟨h1, h2', h3⟩ := drop_cons hi
        have hr : List.range' i (c.rops.size - i) = i :: List.range' (i + 1) (c.rops.size - (i + 1)) := by
          have : c.rops.size - i = (c.rops.size - (i + 1)) + 1 := by omega
          rw [this, List.range'_succ]
        rw [hr]
        simp only [wpOps, h1]
        have hwant := wanted_r (G := G) (m := c.mem) (w := w) (a := a) hw fun d _ => ev_r ht (.tmp d)
        rw [if_pos hwant]
        refine .inl (hos.run _ G w a hR (fun x _ => ev_r ht x) _ fun G' w' v hv hev hrl => ?_)
        exact ⟨hd, by rw [hb]; exact hfn, hp _ _ ⟨v, G', hv, rfl, hev, hrl⟩⟩
  | nil =>
    simp only [stp, stepK, hops] at h
    cases hlog : c.log with
    | some fs =>
      simp only [hlog] at h
      have hk : Keeps c.mem o.2 := by
        unfold endRegion at h
        dsimp only at h
        rcases condO h with ⟨_, h2⟩ | ⟨_, h2⟩
        · split at h2
          · exact (ih _ _ h2).keeps
          · unfold conK at h2
            split at h2
            · exact (ih _ _ h2).keeps
            · cases h2
          · cases h2
        · cases h2
      exact ⟨hk, fun hl => by rw [hlog] at hl; cases hl⟩
    | none =>
      simp only [hlog] at h
      have hcr : c.log = none → ∀ i, c.ops = c.rops.toList.drop i → c.rops.size ≤ i := by
        intro _ i hi
        rw [hops] at hi
        have := congrArg List.length hi
        simp at this
        omega
      have fin : ∀ {c' : Cfg}, runN E n c' = some o → c'.mem = c.mem → c'.tmps = c.tmps → c'.fn = c.fn → c'.log = none → c'.ops = [] →
          (∀ (b : Frame) (a : Act) (w : World) (cs : List Frame) (G : Gh), b.fn = c.fn → Rel G c.mem w → TmR G c.mem w c.tmps a.tmps → step E.P (lone (b.at a c.todo) cs w) = .next (lone (b.at a c'.todo) cs w)) → Sim E.P c o :=
        fun hr h1 h2 h3 h4 h5 hs => (ih _ _ hr).go h1 h2 h3 h4 h5 hops hcr hs
      have ret : retA (optA (runN E n) (runN E n)) E c = some o → (c.todo = [] ∨ ∃ k, c.todo = .code .ret :: k) → Sim E.P c o := by
        intro hr htd
        have hmem := retA_mem hr
        refine ⟨by rw [hmem]; exact .refl _, fun _ b G w a R hb hk hd hfn hR ht hp => ?_⟩
        obtain ⟨_, fn, tv, v, h1, h2, h3, h4⟩ := retA_r hr hR ht
        have h5 : RunsTo E.P b a c.todo w R := .ret hk hd (by rw [hb]; exact h1) h3 (hp _ _ ⟨tv, G, h2, by rw [hmem]; exact .refl _ _ _, by rw [hmem]; exact hR, by rw [hmem]; exact h4⟩) htd
        refine ⟨fun _ => h5, fun i hi => ?_⟩
        have : c.rops.size - i = 0 := by have := hcr hlog i hi; omega
        rw [this]
        exact h5
      cases htodo : c.todo with
      | nil =>
        simp only [htodo] at h
        exact ret h (.inl htodo)
      | cons it k =>
        cases it with
        | inBlock id =>
          simp only [htodo] at h
          exact fin h rfl rfl rfl rfl rfl fun b a w cs G _ _ _ => by rw [htodo]; exact step_inBlock
        | inLoop cd =>
          simp only [htodo] at h
          exact fin h rfl rfl rfl rfl rfl fun b a w cs G _ _ _ => by rw [htodo]; exact step_inLoop
        | code cd =>
          simp only [htodo] at h
          cases cd with
          | skip => exact fin h rfl rfl rfl rfl rfl fun b a w cs G _ _ _ => by rw [htodo]; exact step_skip
          | seq x y => exact fin h rfl rfl rfl rfl rfl fun b a w cs G _ _ _ => by rw [htodo]; exact step_seq
          | block id x => exact fin h rfl rfl rfl rfl rfl fun b a w cs G _ _ _ => by rw [htodo]; exact step_block
          | loop x => exact fin h rfl rfl rfl rfl rfl fun b a w cs G _ _ _ => by rw [htodo]; exact step_loop
          | ret => exact ret h (.inr ⟨k, htodo⟩)
          | exit id =>
            dsimp only at h
            split at h
            · rename_i k' hk'
              exact fin h rfl rfl rfl rfl rfl fun b a w cs G _ _ _ => by rw [htodo]; exact step_exit hk'
            · cases h
          | cond x t f =>
            dsimp only at h
            obtain ⟨b0, hb0, h2⟩ := bindO h
            rcases condO h2 with ⟨rfl, h3⟩ | ⟨rfl, h3⟩
            · exact fin h3 rfl rfl rfl rfl rfl fun b a w cs G _ _ ht => by rw [htodo]; exact step_cond (asB_v hb0 (ev_r ht x)).1
            · exact fin h3 rfl rfl rfl rfl rfl fun b a w cs G _ _ ht => by rw [htodo]; exact step_cond (asB_v hb0 (ev_r ht x)).1
          | region id ops draw =>
            have hrest : ∀ {G : Gh} {w : World} {a : Act}, TmR G c.mem w c.tmps a.tmps → TmR G c.mem w (match E.keep c.fn id with | some l => restrict l 0 c.tmps | none => c.tmps) a.tmps := by
              intro G w a ht
              split
              · exact restrict_r ht
              · exact ht
            cases draw with
            | false =>
              have hS := ih _ _ h
              refine ⟨hS.keeps, fun _ b G w a R hb hk hd hfn hR ht hp => ?_⟩
              have h5 : RunsTo E.P b a c.todo w R := by
                rw [htodo]
                refine .region (wp_region ?_)
                have := (hS.run rfl b G w a R hb hk hd hfn hR (hrest ht) hp).2 0 (by simp)
                simpa [List.range_eq_range'] using this
              refine ⟨fun _ => h5, fun i hi => ?_⟩
              have : c.rops.size - i = 0 := by have := hcr hlog i hi; omega
              rw [this]
              exact h5
            | true =>
              have hD := hdraw n (fun k hk => IH k (Nat.lt_succ_of_le hk)) _ _ (by rfl) (by rfl) h
              refine ⟨hD.1, fun _ b G w a R hb hk hd hfn hR ht hp => ?_⟩
              have h5 : RunsTo E.P b a c.todo w R := by
                rw [htodo]
                refine .region (wp_region_any hF.mixed ?_)
                have hg : w.grownBy { w with drawn := w.drawn + 1 } none := ⟨rfl, rfl, rfl, Nat.le_refl _, fun _ _ _ => rfl⟩
                have hev := Ev.junk (G := G) (m := c.mem) hg
                exact hD.2 b G _ a R hb hk hd hfn (hR.junk hg) (hrest (hev.tm ht)) fun e w' hq => hp e w' (hq.trans hev)
              refine ⟨fun _ => h5, fun i hi => ?_⟩
              have : c.rops.size - i = 0 := by have := hcr hlog i hi; omega
              rw [this]
              exact h5
          | _ => cases h
        | _ =>
          simp only [htodo] at h
          cases h
end
end Go.Ab

/- What the checks of a region that draws its order say. -/
namespace Go.Ab
open Go

theorem pairsOf_spec {bits : List Nat} {f : Foot} {i : Nat} : ∀ {gs : List Foot} {j : Nat} {ps : List Con}, pairsOf bits f i j gs = some ps → ∀ (k : Nat) (g : Foot), gs[k]? = some g → (bits.getD (j + k) 0).testBit i = false → ∃ l, pairUp f g = some l ∧ ∀ c ∈ l, c ∈ ps
  | [], _, _, _, k, g, hg, _ => by simp at hg
  | g0 :: gs, j, ps, h, k, g, hg, hb => by
    simp only [pairsOf] at h
    split at h
    · rename_i r hr
      have rest := pairsOf_spec hr
      cases ht : (bits.getD j 0).testBit i with
      | true =>
        rw [ht, cond_true] at h
        cases h
        cases k with
        | zero => rw [Nat.add_zero, ht] at hb; cases hb
        | succ k => exact rest k g (by simpa using hg) (by rw [← hb]; congr 2; omega)
      | false =>
        rw [ht, cond_false] at h
        split at h
        · rename_i q hq
          cases h
          cases k with
          | zero =>
            cases hg
            exact ⟨q, hq, fun c hc => List.mem_append.2 (.inl hc)⟩
          | succ k =>
            obtain ⟨l, h1, h2⟩ := rest k g (by simpa using hg) (by rw [← hb]; congr 2; omega)
            exact ⟨l, h1, fun c hc => List.mem_append.2 (.inr (h2 c hc))⟩
        · cases h
    · cases h
theorem pairs_spec {bits : List Nat} : ∀ {fs : List Foot} {i : Nat} {ps : List Con}, pairs bits i fs = some ps → ∀ (k k' : Nat) (f g : Foot), fs[k]? = some f → fs[k']? = some g → k < k' → (bits.getD (i + k') 0).testBit (i + k) = false → ∃ l, pairUp f g = some l ∧ ∀ c ∈ l, c ∈ ps
  | [], _, _, _, k, _, _, _, hf, _, _, _ => by simp at hf
  | f0 :: fs, i, ps, h, k, k', f, g, hf, hg, hk, hb => by
    simp only [pairs] at h
    split at h
    · rename_i p1 hp1
      split at h
      · rename_i r hr
        cases h
        cases k with
        | zero =>
          cases hf
          cases k' with
          | zero => omega
          | succ k' =>
            obtain ⟨l, h1, h2⟩ := pairsOf_spec hp1 k' g (by simpa using hg) (by rw [← hb]; congr 2; omega)
            exact ⟨l, h1, fun c hc => List.mem_append.2 (.inl (h2 c hc))⟩
        | succ k =>
          cases k' with
          | zero => omega
          | succ k' =>
            obtain ⟨l, h1, h2⟩ := pairs_spec hr k k' f g (by simpa using hf) (by simpa using hg) (by omega) (by rw [← hb]; congr 1; congr 1; omega; omega)
            exact ⟨l, h1, fun c hc => List.mem_append.2 (.inr (h2 c hc))⟩
      · cases h
    · cases h
theorem apartFrom_spec {ops : Array Oper} {bits : List Nat} {x : Oper} {i : Nat} : ∀ {ys : List Oper} {j : Nat}, apartFrom ops bits x i j ys = true → ∀ (k : Nat) (y : Oper), ys[k]? = some y → (bits.getD (j + k) 0).testBit i = false → Oper.apart ops x y = true
  | [], _, _, k, y, hy, _ => by simp at hy
  | y0 :: ys, j, h, k, y, hy, hb => by
    simp only [apartFrom, Bool.and_eq_true, Bool.or_eq_true] at h
    cases k with
    | zero =>
      cases hy
      rw [Nat.add_zero] at hb
      rw [hb] at h
      simpa using h.1
    | succ k => exact apartFrom_spec h.2 k y (by simpa using hy) (by rw [← hb]; congr 2; omega)
theorem allApart_spec {ops : Array Oper} {bits : List Nat} : ∀ {xs : List Oper} {i : Nat}, allApart ops bits i xs = true → ∀ (k k' : Nat) (x y : Oper), xs[k]? = some x → xs[k']? = some y → k < k' → (bits.getD (i + k') 0).testBit (i + k) = false → Oper.apart ops x y = true
  | [], _, _, k, _, _, _, hx, _, _, _ => by simp at hx
  | x0 :: xs, i, h, k, k', x, y, hx, hy, hk, hb => by
    simp only [allApart, Bool.and_eq_true] at h
    cases k with
    | zero =>
      cases hx
      cases k' with
      | zero => omega
      | succ k' => exact apartFrom_spec h.1 k' y (by simpa using hy) (by rw [← hb]; congr 2; omega)
    | succ k =>
      cases k' with
      | zero => omega
      | succ k' => exact allApart_spec h.2 k k' x y (by simpa using hx) (by simpa using hy) (by omega) (by rw [← hb]; congr 1; congr 1; omega; omega)
theorem backOk_spec : ∀ {xs : List Oper} {i : Nat}, backOk i xs = true → ∀ (k : Nat) (x : Oper), xs[k]? = some x → ∀ e ∈ x.after.toList, Region.binds .any e = true → e.on < i + k
  | [], _, _, k, x, hx, _, _, _ => by simp at hx
  | x0 :: xs, i, h, k, x, hx, e, he, hb => by
    simp only [backOk, Bool.and_eq_true, List.all_eq_true] at h
    cases k with
    | zero =>
      cases hx
      have := h.1 e he
      rw [hb] at this
      simpa using this
    | succ k =>
      have := backOk_spec h.2 k x (by simpa using hx) e he hb
      omega
theorem fold_bits {acc : List Nat} {i : Nat} : ∀ {l : List Edge} {s : Nat}, (l.foldl (fun s e => cond (Region.binds .any e) (s ||| 2 ^ e.on ||| acc.getD e.on 0) s) s).testBit i = true → s.testBit i = true ∨ ∃ e ∈ l, Region.binds .any e = true ∧ (i = e.on ∨ (acc.getD e.on 0).testBit i = true)
  | [], s, h => .inl h
  | e :: l, s, h => by
    rw [List.foldl_cons] at h
    rcases fold_bits h with h1 | ⟨e', he', h1⟩
    · cases hb : Region.binds .any e with
      | false => rw [hb, cond_false] at h1; exact .inl h1
      | true =>
        rw [hb, cond_true, Nat.testBit_or, Nat.testBit_or, Bool.or_eq_true, Bool.or_eq_true] at h1
        rcases h1 with (h1 | h1) | h1
        · exact .inl h1
        · rw [Nat.testBit_two_pow] at h1
          exact .inr ⟨e, by simp, hb, .inl (of_decide_eq_true h1).symm⟩
        · exact .inr ⟨e, by simp, hb, .inr h1⟩
    · exact .inr ⟨e', by simp [he'], h1⟩
theorem beforeL_pre : ∀ (xs : List Oper) (acc : List Nat), acc <+: beforeL xs acc
  | [], acc => List.prefix_refl _
  | x :: xs, acc => (List.prefix_append acc _).trans (beforeL_pre xs _)
theorem beforeL_spec : ∀ (xs : List Oper) (acc : List Nat) (k : Nat) (x : Oper), xs[k]? = some x → (∀ e ∈ x.after.toList, Region.binds .any e = true → e.on < acc.length + k) → ∀ i, ((beforeL xs acc).getD (acc.length + k) 0).testBit i = true →
    ∃ e ∈ x.after.toList, Region.binds .any e = true ∧ (i = e.on ∨ ((beforeL xs acc).getD e.on 0).testBit i = true)
  | [], _, k, x, hx, _, _, _ => by simp at hx
  | x0 :: xs, acc, k, x, hx, hback, i, h => by
    cases k with
    | zero =>
      cases hx
      obtain ⟨t, ht⟩ := beforeL_pre (x0 :: xs) acc
      obtain ⟨t', ht'⟩ := beforeL_pre xs (acc ++ [x0.after.toList.foldl (fun s e => cond (Region.binds .any e) (s ||| 2 ^ e.on ||| acc.getD e.on 0) s) 0])
      have e1 : (beforeL (x0 :: xs) acc).getD (acc.length + 0) 0 = x0.after.toList.foldl (fun s e => cond (Region.binds .any e) (s ||| 2 ^ e.on ||| acc.getD e.on 0) s) 0 := by
        show (beforeL xs (acc ++ [_])).getD (acc.length + 0) 0 = _
        rw [← ht']
        simp [List.getD_eq_getElem?_getD]
      rw [e1] at h
      rcases fold_bits h with h1 | ⟨e, he, hb, h1⟩
      · simp at h1
      · refine ⟨e, he, hb, h1.imp id fun h2 => ?_⟩
        have hlt := hback e he hb
        rw [← ht]
        rw [List.getD_eq_getElem?_getD, List.getElem?_append_left (by omega), ← List.getD_eq_getElem?_getD]
        exact h2
    | succ k =>
      have hl : (acc ++ [x0.after.toList.foldl (fun s e => cond (Region.binds .any e) (s ||| 2 ^ e.on ||| acc.getD e.on 0) s) 0]).length + k = acc.length + (k + 1) := by simp; omega
      have := beforeL_spec xs (acc ++ [x0.after.toList.foldl (fun s e => cond (Region.binds .any e) (s ||| 2 ^ e.on ||| acc.getD e.on 0) s) 0]) k x (by simpa using hx) (fun e he hb => by rw [hl]; exact hback e he hb) i (by rw [hl]; exact h)
      exact this
end Go.Ab
