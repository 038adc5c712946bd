/- What the functions of the path law answer. -/
import Derived.Test.YtjbilloofeedgaaPq
set_option linter.unusedVariables false
set_option linter.unusedSimpArgs false
/- What the functions of paths answer. -/
namespace Go.Ab
open Go Go.Proofs

abbrev tS (s : ByteArray) : TE := .c (.p (.c (.string s)))
abbrev tN (l : List ByteArray) : TE := .c (.p (.sl (l.map encS)))
theorem retB {a b : Bool} (h : a = b) : some (IRes.ret (TV.e (TE.c (CV.p (PV.c (Value.bool a)))))) = some (IRes.ret (mkB b)) := by rw [h]
theorem S40 (c : Int) : ansI E 40 [.c (.p (.c (.int .u8 c)))] = some (.ret (mkB (plainB c))) := by
  rw [ansI_none rfl, C40]
  simp only [plainB]
  simp [J40_4_eq, J40_5_eq, -Bool.decide_or, -Bool.decide_and]
  repeat' split
  all_goals (refine retB ?_; rw [Bool.eq_iff_iff]; simp only [decide_eq_true_eq, true_iff, Bool.false_eq_true, false_iff]; omega)
theorem S42 (c : Int) : ansI E 42 [.c (.p (.c (.int .u8 c)))] = some (.ret (mkB (plainB c))) := by
  rw [ansI_none rfl, C42]
  simp only [plainB]
  simp [-Bool.decide_or, -Bool.decide_and]
  repeat' split
  all_goals (refine retB ?_; rw [Bool.eq_iff_iff]; simp only [decide_eq_true_eq, true_iff, Bool.false_eq_true, false_iff]; omega)
/-- Is a text a name? -/
def nameZ (s : ByteArray) : Bool := decide (1 ≤ s.size) && decide (s.size ≤ 16) && !decide (s = ⟨#[46]⟩) && !decide (s = ⟨#[46, 46]⟩) && s.data.toList.all fun x => plainB x.toNat
theorem idxS {s : ByteArray} {i : Nat} (h : i < s.size) : aidxS (mkS s) (i : Int) = some ((s.data.toList[i]'(by simpa using h)).toNat : Int) := by
  have h' : s.data[i]? = some s.data[i] := Array.getElem?_eq_getElem h
  simp [aidxS, h']
theorem take_all {s : ByteArray} {i : Nat} (h : i < s.size) (p : UInt8 → Bool) : (s.data.toList.take (i + 1)).all p = ((s.data.toList.take i).all p && p (s.data.toList[i]'(by simpa using h))) := by
  rw [List.take_succ_eq_append_getElem (by simpa using h)]
  simp
theorem all_take {l : List UInt8} {p : UInt8 → Bool} (h : l.all p = true) (k : Nat) : (l.take k).all p = true := by
  rw [List.all_eq_true] at h ⊢
  exact fun x hx => h x (List.mem_of_mem_take hx)
theorem J83 (s : ByteArray) (hs : s.size ≤ 16) : ∀ (k i : Nat) (m : Mem), i + k = s.size → (s.data.toList.take i).all (fun x => plainB x.toNat) = true →
    (J83_4 s s.size i m).bind frz0 = some (.ret (mkB (s.data.toList.all fun x => plainB x.toNat)))
  | 0, i, m, h, ha => by
    obtain rfl : i = s.size := by omega
    have hl : s.data.toList.take s.size = s.data.toList := List.take_of_length_le (Nat.le_of_eq (by rw [Array.length_toList]; rfl))
    rw [hl] at ha
    rw [J83_4_eq]
    simp [ha]
  | k + 1, i, m, h, ha => by
    have hlt : i < s.size := by omega
    have h1 : ((i : Int) < (s.size : Int)) := by omega
    have e1 : IntKind.i64.wrap ((i : Int) + 1) = (i : Int) + 1 := in_i64 (by omega)
    have ht := take_all hlt fun x => plainB x.toNat
    have ih := J83 s hs k (i + 1) m (by omega)
    rw [J83_4_eq]
    simp only [alen_S, cmp_lss, h1, decide_true, Option.bind_some, cond_true, idxS hlt]
    generalize s.data.toList[i]'(by simpa using hlt) = x at *
    cases hp : plainB x.toNat with
    | true =>
      rw [ha, hp] at ht
      have ih' := ih (by simpa using ht)
      push_cast at ih'
      simp [callI_eq, S40, hp, e1, ih']
    | false =>
      have hf : (s.data.toList.all fun x => plainB x.toNat) = false := by
        cases hh : s.data.toList.all fun x => plainB x.toNat with
        | false => rfl
        | true =>
          have := all_take hh (i + 1)
          rw [this, hp] at ht
          simp at ht
      simp [callI_eq, S40, hp, hf]
theorem J13 (s : ByteArray) (hs : s.size ≤ 16) : ∀ (k i : Nat) (m : Mem), i + k = s.size → (s.data.toList.take i).all (fun x => plainB x.toNat) = true →
    (J13_4 s i m).bind frz0 = some (.ret (mkB (s.data.toList.all fun x => plainB x.toNat)))
  | 0, i, m, h, ha => by
    obtain rfl : i = s.size := by omega
    have hl : s.data.toList.take s.size = s.data.toList := List.take_of_length_le (Nat.le_of_eq (by rw [Array.length_toList]; rfl))
    rw [hl] at ha
    rw [J13_4_eq]
    simp [ha]
  | k + 1, i, m, h, ha => by
    have hlt : i < s.size := by omega
    have h1 : ((i : Int) < (s.size : Int)) := by omega
    have e1 : IntKind.i64.wrap ((i : Int) + 1) = (i : Int) + 1 := in_i64 (by omega)
    have ht := take_all hlt fun x => plainB x.toNat
    have ih := J13 s hs k (i + 1) m (by omega)
    rw [J13_4_eq]
    simp only [alen_S, cmp_lss, h1, decide_true, Option.bind_some, cond_true, idxS hlt]
    generalize s.data.toList[i]'(by simpa using hlt) = x at *
    cases hp : plainB x.toNat with
    | true =>
      rw [ha, hp] at ht
      have ih' := ih (by simpa using ht)
      push_cast at ih'
      simp [callI_eq, S42, hp, e1, ih']
    | false =>
      have hf : (s.data.toList.all fun x => plainB x.toNat) = false := by
        cases hh : s.data.toList.all fun x => plainB x.toNat with
        | false => rfl
        | true =>
          have := all_take hh (i + 1)
          rw [this, hp] at ht
          simp at ht
      simp [callI_eq, S42, hp, hf]
theorem S83 (s : ByteArray) : ansI E 83 [tS s] = some (.ret (mkB (nameZ s))) := by
  rw [ansI_none rfl, C83]
  by_cases h0 : s = ⟨#[]⟩
  · subst h0
    have : (⟨#[]⟩ : ByteArray).size = 0 := rfl
    simp [nameZ, this]
  · have h1 : 1 ≤ s.size := Nat.pos_of_ne_zero fun hh => h0 (by
      obtain ⟨d⟩ := s
      congr 1
      exact Array.eq_empty_of_size_eq_zero hh)
    by_cases h2 : 16 < s.size
    · have h2' : ¬ s.size ≤ 16 := by omega
      have h2i : (16 : Int) < (s.size : Int) := by omega
      simp [nameZ, h0, h2i, h2']
    · have h2' : s.size ≤ 16 := by omega
      have h2i : ¬ (16 : Int) < (s.size : Int) := by omega
      have hj := J83 s h2' s.size 0 [] (by omega) rfl
      by_cases h3 : s = ⟨#[46]⟩
      · subst h3
        simp [nameZ]
      · by_cases h4 : s = ⟨#[46, 46]⟩
        · subst h4
          simp [nameZ]
        · simp [nameZ, h0, h1, h2i, h2', h3, h4]
          simpa using hj
theorem S13 (s : ByteArray) : ansI E 13 [tS s] = some (.ret (mkB (nameZ s))) := by
  rw [ansI_none rfl, C13]
  by_cases h0 : s.size < 1
  · have h0' : ¬ 1 ≤ s.size := by omega
    have h0i : (s.size : Int) < 1 := by omega
    simp [nameZ, h0i, h0']
  · have h1 : 1 ≤ s.size := by omega
    have h1i : ¬ (s.size : Int) < 1 := by omega
    by_cases h2 : 16 < s.size
    · have h2' : ¬ s.size ≤ 16 := by omega
      have h2i : (16 : Int) < (s.size : Int) := by omega
      simp [nameZ, h1i, h2i, h2']
    · have h2' : s.size ≤ 16 := by omega
      have h2i : ¬ (16 : Int) < (s.size : Int) := by omega
      have hj := J13 s h2' s.size 0 [] (by omega) rfl
      by_cases h3 : s = ⟨#[46]⟩
      · subst h3
        simp [nameZ]
      · by_cases h4 : s = ⟨#[46, 46]⟩
        · subst h4
          simp [nameZ]
        · simp [nameZ, h1i, h1, h2i, h2', h3, h4]
          simpa using hj
end Go.Ab

/- What the functions of paths answer: lists of names. -/
namespace Go.Ab
open Go Go.Proofs

theorem J17 (a : List ByteArray) (ha : a.length ≤ 1000) : ∀ (k i : Nat) (m : Mem), i + k = a.length → (J17_4 (tN a) (tN a) i m).bind frz0 = some (.ret (mkB true))
  | 0, i, m, h => by
    obtain rfl : i = a.length := by omega
    rw [J17_4_eq]
    simp
  | k + 1, i, m, h => by
    have hlt : i < a.length := by omega
    have h1 : ((i : Int) < (a.length : Int)) := by omega
    have e1 : IntKind.i64.wrap ((i : Int) + 1) = (i : Int) + 1 := in_i64 (by omega)
    have hx : a[i]? = some a[i] := List.getElem?_eq_getElem hlt
    have hi := aidx_map (enc := encS) (k := 1) (m := m) hx rfl
    have ih := J17 a ha k (i + 1) m (by omega)
    push_cast at ih
    rw [J17_4_eq]
    simp [h1, hi, encS, e1, ih]
theorem S17 (a : List ByteArray) (ha : a.length ≤ 1000) : ansI E 17 [tN a, tN a] = some (.ret (mkB true)) := by
  have h := J17 a ha a.length 0 [] (by omega)
  rw [ansI_none rfl, C17]
  simpa using h
theorem J46 (a : List ByteArray) (ha : a.length ≤ 1000) : ∀ (k i : Nat) (m : Mem), i + k = a.length → (J46_4 (tN a) (tN a) a.length i m).bind frz0 = some (.ret (mkB true))
  | 0, i, m, h => by
    obtain rfl : i = a.length := by omega
    rw [J46_4_eq]
    simp
  | k + 1, i, m, h => by
    have hlt : i < a.length := by omega
    have h1 : ((i : Int) < (a.length : Int)) := by omega
    have e1 : IntKind.i64.wrap ((i : Int) + 1) = (i : Int) + 1 := in_i64 (by omega)
    have hx : a[i]? = some a[i] := List.getElem?_eq_getElem hlt
    have hi := aidx_map (enc := encS) (k := 1) (m := m) hx rfl
    have ih := J46 a ha k (i + 1) m (by omega)
    push_cast at ih
    rw [J46_4_eq]
    simp [h1, hi, encS, e1, ih]
theorem S46 (a : List ByteArray) (ha : a.length ≤ 1000) : ansI E 46 [tN a, tN a] = some (.ret (mkB true)) := by
  have h := J46 a ha a.length 0 [] (by omega)
  rw [ansI_none rfl, C46]
  simpa using h
theorem headLen_enc (a : List ByteArray) : headLen 1 (a.map encS) = true := by
  cases a <;> rfl
/-- Within: a path below another one. -/
theorem S18 (a b : List ByteArray) (x : ByteArray) (hb : b = a ++ [x]) (ha : a.length ≤ 1000) : ansI E 18 [tN b, tN a] = some (.ret (mkB true)) := by
  have h := S46 a ha
  have hl : b.length = a.length + 1 := by simp [hb]
  have h1 : ((a.length : Int) ≤ (b.length : Int)) := by omega
  have ht : (b.map encS).take a.length = a.map encS := by simp [hb]
  have hh := headLen_enc b
  rw [ansI_none rfl, C18]
  simp [aslice, h1, hh, ht, callI_eq, h, -List.map_take]
theorem S18' (a b : List ByteArray) (x : ByteArray) (hb : b = a ++ [x]) : ansI E 18 [tN a, tN b] = some (.ret (mkB false)) := by
  have hl : b.length = a.length + 1 := by simp [hb]
  have h1 : ¬ (b.length ≤ a.length) := by omega
  rw [ansI_none rfl, C18]
  simp [h1]
theorem S84 (s : ByteArray) : ansI E 84 [tS s] = some (.ret (mkB false)) := by
  rw [ansI_none rfl, C84]
  simp
theorem less_refl : ∀ l : List UInt8, Op.bytesLess l l = false
  | [] => rfl
  | x :: l => by simp [Op.bytesLess, less_refl l]
theorem S48 (s : ByteArray) : ansI E 48 [tS s, tS s] = some (.ret (mkI .i64 0)) := by
  rw [ansI_none rfl, C48]
  simp [callI_eq, S84, less_refl]
theorem J47 (a b : List ByteArray) (x : ByteArray) (hb : b = a ++ [x]) (ha : a.length ≤ 1000) : ∀ (k i : Nat) (m : Mem), i + k = a.length → (J47_2 (tN a) (tN b) (tN a) a.length i m) = some (.ret (mkI .i64 (-1)), m)
  | 0, i, m, h => by
    obtain rfl : i = a.length := by omega
    have hl : b.length = a.length + 1 := by simp [hb]
    have h1 : a.length < b.length := by omega
    rw [J47_2_eq]
    simp [h1]
  | k + 1, i, m, h => by
    have hlt : i < a.length := by omega
    have hl : b.length = a.length + 1 := by simp [hb]
    have h2 : ¬ (b.length ≤ i) := by omega
    have e1 : IntKind.i64.wrap ((i : Int) + 1) = (i : Int) + 1 := in_i64 (by omega)
    have hx : a[i]? = some a[i] := List.getElem?_eq_getElem hlt
    have hx' : b[i]? = some a[i] := by rw [hb, List.getElem?_append_left hlt, hx]
    have hi := aidx_map (enc := encS) (k := 1) (m := m) hx rfl
    have hi' := aidx_map (enc := encS) (k := 1) (m := m) hx' rfl
    have ih := J47 a b x hb ha k (i + 1) m (by omega)
    push_cast at ih
    have hs := S48 a[i]
    rw [J47_2_eq]
    simp [hlt, h2, hi, hi', encS, e1, ih, callI_eq, hs]
theorem S19 (a b : List ByteArray) (x : ByteArray) (hb : b = a ++ [x]) (ha : a.length ≤ 1000) : ansI E 19 [tN a, tN b] = some (.ret (mkI .i64 (-1))) := by
  have h := J47 a b x hb ha a.length 0 [] (by omega)
  have h47 : ans E 47 [tN a, tN b, .c (.clo 48 [] [])] [] = some (.ret (mkI .i64 (-1)), []) := by
    rw [ans_none rfl, C47]
    simpa using h
  rw [ansI_none rfl, C19, callW_ret h47]
  simp
theorem J44 (a : List ByteArray) (ha : a.length ≤ 8) (hn : a.all nameZ = true) : ∀ (k i : Nat) (m : Mem), i + k = a.length → (J44_2 (tN a) (tN a) a.length i m).bind frz0 = some (.ret (mkI .i64 0))
  | 0, i, m, h => by
    obtain rfl : i = a.length := by omega
    have h1 : ¬ ((8 : Int) < (a.length : Int)) := by omega
    rw [J44_2_eq]
    simp [h1]
  | k + 1, i, m, h => by
    have hlt : i < a.length := by omega
    have h1 : ((i : Int) < (a.length : Int)) := by omega
    have e1 : IntKind.i64.wrap ((i : Int) + 1) = (i : Int) + 1 := in_i64 (by omega)
    have hx : a[i]? = some a[i] := List.getElem?_eq_getElem hlt
    have hi := aidx_map (enc := encS) (k := 1) (m := m) hx rfl
    have hz : nameZ a[i] = true := List.all_eq_true.1 hn _ (List.getElem_mem hlt)
    have hs := S83 a[i]
    rw [hz] at hs
    have ih := J44 a ha hn k (i + 1) m (by omega)
    push_cast at ih
    rw [J44_2_eq]
    simp [h1, hi, encS, e1, ih, callI_eq, hs]
theorem S44 (a : List ByteArray) (ha : a.length ≤ 8) (hn : a.all nameZ = true) : ansI E 44 [tN a] = some (.ret (mkI .i64 0)) := by
  have h := J44 a ha hn a.length 0 [] (by omega)
  rw [ansI_none rfl, C44]
  simpa using h
theorem A45 (a : List ByteArray) (ha : a.length ≤ 1000) (m : Mem) : ans E 45 [tN a] m = some (.ret (.e (.c (.p (.sl (a.map encS))))), m) := by
  have hb : a.length * 16 ≤ 140737488355328 := by omega
  have : E.ext 45 = extF 45 := rfl
  unfold ans
  rw [this]
  simp [extF, hb]
/-- Split: the directory, the last name. -/
theorem S15 (a b : List ByteArray) (x : ByteArray) (hb : b = a ++ [x]) (ha : a.length ≤ 7) (hn : b.all nameZ = true) :
    ansI E 15 [tN b] = some (.ret (.t [tN a, tS x, .c (.p (.c (.int .i64 0)))])) := by
  have hl : b.length = a.length + 1 := by simp [hb]
  have h := S44 b (by omega) hn
  have ht : (b.map encS).take a.length = a.map encS := by simp [hb]
  have hh := headLen_enc b
  have e1 : IntKind.i64.wrap ((b.length : Int) - 1) = (a.length : Int) := by rw [in_i64 (by omega)]; omega
  have h1 : ¬ ((a.length : Int) < 0) := by omega
  have h2 : a.length ≤ b.length := by omega
  have hx' : b[a.length]? = some x := by simp [hb]
  have hi' := fun m => aidx_map (enc := encS) (k := 1) (m := m) hx' rfl
  have h45 := A45 a (by omega) []
  rw [ansI_none rfl, C15]
  simp [callI_eq, h, e1, h1, h2, aslice, hh, ht, -List.map_take]
  rw [callA_ret h45 (List.prefix_refl _)]
  simp [hi', encS]
end Go.Ab

/- Paths, as plain texts: what 'Parse' answers to a text that was made of names. -/
namespace Go.Ab
open Go Go.Proofs

/-! ### A text cut at its first stroke -/
theorem index_free : ∀ {l : List UInt8}, 47 ∉ l → Lib.index l [47] = -1
  | [], _ => rfl
  | b :: l, h => by
    have hb : ¬ (47 = b) := fun e => h (by simp [e])
    have hl := index_free (l := l) fun e => h (by simp [e])
    have h0 : [47].isPrefixOf (b :: l) = false := by simp [List.isPrefixOf, hb]
    unfold Lib.index
    rw [h0, hl]
    rfl
theorem index_at : ∀ {m l : List UInt8}, 47 ∉ m → Lib.index (m ++ 47 :: l) [47] = m.length
  | [], l, _ => by
    simp [Lib.index, List.isPrefixOf]
  | b :: m, l, h => by
    have hb : ¬ (47 = b) := fun e => h (by simp [e])
    have hl := index_at (m := m) (l := l) fun e => h (by simp [e])
    have h0 : [47].isPrefixOf (b :: (m ++ 47 :: l)) = false := by simp [List.isPrefixOf, hb]
    show Lib.index (b :: (m ++ 47 :: l)) [47] = _
    unfold Lib.index
    rw [h0, hl]
    have : ((m.length : Int) == -1) = false := by rw [beq_eq_false_iff_ne]; omega
    simp [this]
theorem cut_free {l : List UInt8} (h : 47 ∉ l) : Lib.cut l [47] = (l, [], false) := by
  unfold Lib.cut
  rw [index_free h]
  rfl
theorem cutS_at {m l : List UInt8} (h : 47 ∉ m) : Lib.cut (m ++ 47 :: l) [47] = (m, l, true) := by
  unfold Lib.cut
  rw [index_at h, if_pos (by omega)]
  simp
/-- Either there is no stroke, or it is cut at the first. -/
theorem cut_cases (l : List UInt8) : (47 ∉ l ∧ Lib.cut l [47] = (l, [], false)) ∨ ∃ m r, l = m ++ 47 :: r ∧ 47 ∉ m ∧ Lib.cut l [47] = (m, r, true) := by
  by_cases h : 47 ∈ l
  · have : ∀ (l : List UInt8), 47 ∈ l → ∃ m r, l = m ++ 47 :: r ∧ 47 ∉ m := by
      intro l
      induction l with
      | nil => intro h; simp at h
      | cons b l ih =>
        intro h
        by_cases hb : b = 47
        · exact ⟨[], l, by simp [hb], by simp⟩
        · obtain ⟨m, r, rfl, hm⟩ := ih (by simpa [Ne.symm hb] using h)
          exact ⟨b :: m, r, rfl, by simp [Ne.symm hb, hm]⟩
    obtain ⟨m, r, rfl, hm⟩ := this l h
    exact .inr ⟨m, r, rfl, hm, cutS_at hm⟩
  · exact .inl ⟨h, cut_free h⟩
/-! ### The pieces -/
theorem pcs_mem : ∀ (k : Nat) (l : List UInt8) (p : ByteArray), p ∈ pcs k l → ∀ b ∈ p.data.toList, b ∈ l ∧ b ≠ 47
  | 0, l, p, h => by simp [pcs] at h
  | k + 1, l, p, h => by
    unfold pcs at h
    split at h
    · simp at h
    · intro b hb
      rcases cut_cases l with ⟨h1, h2⟩ | ⟨m, r, rfl, h1, h2⟩
      · rw [h2] at h
        simp only [List.mem_cons] at h
        rcases h with rfl | h
        · simp only [List.toList_toArray] at hb
          exact ⟨hb, fun e => h1 (e ▸ hb)⟩
        · have := (pcs_mem k [] p h b hb).1
          simp at this
      · rw [h2] at h
        simp only [List.mem_cons] at h
        rcases h with rfl | h
        · simp only [List.toList_toArray] at hb
          exact ⟨by simp [hb], fun e => h1 (e ▸ hb)⟩
        · have := pcs_mem k r p h b hb
          exact ⟨by simp [this.1], this.2⟩
theorem pcs_nil (k : Nat) : pcs k [] = [] := by cases k <;> simp [pcs]
theorem pcs_text : ∀ (r : List ByteArray) (m : ByteArray) (k : Nat), (∀ x ∈ m :: r, 47 ∉ x.data.toList ∧ x.data.toList ≠ []) → (m.data.toList ++ Lib.joinTail [47] (r.map (·.data.toList))).length ≤ k →
    pcs k (m.data.toList ++ Lib.joinTail [47] (r.map (·.data.toList))) = m :: r
  | [], m, k, h, hk => by
    obtain ⟨h1, h2⟩ := h m (by simp)
    have hj : Lib.joinTail [47] ([].map fun x : ByteArray => x.data.toList) = [] := rfl
    rw [hj, List.append_nil] at hk ⊢
    cases k with
    | zero => exact absurd (List.eq_nil_of_length_eq_zero (by omega)) h2
    | succ k =>
      unfold pcs
      rw [if_neg h2, cut_free h1, pcs_nil]
  | y :: r, m, k, h, hk => by
    obtain ⟨h1, h2⟩ := h m (by simp)
    have ih := pcs_text r y
    have hj : Lib.joinTail [47] ((y :: r).map fun x : ByteArray => x.data.toList) = 47 :: (y.data.toList ++ Lib.joinTail [47] (r.map (·.data.toList))) := by
      simp [Lib.joinTail]
    rw [hj] at hk ⊢
    cases k with
    | zero => simp at hk
    | succ k =>
      unfold pcs
      rw [if_neg (by simp), cutS_at h1, ih k (fun x hx => h x (by simp at hx ⊢; exact .inr hx)) (by simp at hk ⊢; omega)]
/-- The pieces of a text that was made of names. -/
theorem pieces_text {s : ByteArray} {ms : List ByteArray} (hne : ms ≠ []) (hs : s.data.toList = Lib.joinTail [47] (ms.map (·.data.toList))) (h : ∀ x ∈ ms, 47 ∉ x.data.toList ∧ x.data.toList ≠ []) :
    pieces s = ⟨#[]⟩ :: ms := by
  cases ms with
  | nil => exact absurd rfl hne
  | cons m r =>
    have hj : Lib.joinTail [47] ((m :: r).map fun x : ByteArray => x.data.toList) = [] ++ 47 :: (m.data.toList ++ Lib.joinTail [47] (r.map (·.data.toList))) := by
      simp [Lib.joinTail]
    rw [hj] at hs
    have hsz : s.size = (m.data.toList ++ Lib.joinTail [47] (r.map (·.data.toList))).length + 1 := by
      have : s.data.toList.length = s.size := by rw [Array.length_toList]; rfl
      rw [← this, hs]
      simp
    unfold pieces
    rw [hs, hsz]
    show (if _ then _ else _) = _
    rw [if_neg (by simp), cutS_at (by simp), pcs_text r m _ h (Nat.le_refl _)]
theorem nameZ_iff {s : ByteArray} : nameZ s = true ↔ 1 ≤ s.size ∧ s.size ≤ 16 ∧ s ≠ ⟨#[46]⟩ ∧ s ≠ ⟨#[46, 46]⟩ ∧ ∀ b ∈ s.data.toList, plainB b.toNat = true := by
  unfold nameZ
  simp only [Bool.and_eq_true, decide_eq_true_eq, Bool.not_eq_true', decide_eq_false_iff_not, List.all_eq_true, ne_eq, and_assoc]
theorem plain_47 {b : UInt8} (h : plainB b.toNat = true) : b ≠ 47 := by
  rintro rfl
  simp [plainB] at h
theorem name_free {s : ByteArray} (h : nameZ s = true) : 47 ∉ s.data.toList ∧ s.data.toList ≠ [] := by
  rw [nameZ_iff] at h
  refine ⟨fun hh => plain_47 (h.2.2.2.2 _ hh) rfl, fun hh => ?_⟩
  have : s.data.toList.length = s.size := by rw [Array.length_toList]; rfl
  rw [hh] at this
  simp at this
  omega
theorem ba_ext {s t : ByteArray} (h : s.data.toList = t.data.toList) : s = t := by
  obtain ⟨⟨s⟩⟩ := s
  obtain ⟨⟨t⟩⟩ := t
  simp at h
  rw [h]
/-! ### The fold -/
theorem step_name {acc : List ByteArray} {x : ByteArray} (h : nameZ x = true) : stepN acc x = acc ++ [x] := by
  rw [nameZ_iff] at h
  obtain ⟨h1, h2, h3, h4, _⟩ := h
  have e0 : ¬ x.data = #[] := fun e => by
    have : x.data.size = x.size := rfl
    rw [e] at this
    simp at this
    omega
  have e1 : ¬ x.data = #[46] := fun e => h3 (by obtain ⟨d⟩ := x; simp at e; rw [e])
  have e2 : ¬ x.data = #[46, 46] := fun e => h4 (by obtain ⟨d⟩ := x; simp at e; rw [e])
  unfold stepN
  rw [if_neg (by simp [e0, e1]), if_neg e2]
theorem fold_names : ∀ (ms acc : List ByteArray), (∀ x ∈ ms, nameZ x = true) → ms.foldl stepN acc = acc ++ ms
  | [], acc, _ => by simp
  | m :: ms, acc, h => by
    rw [List.foldl_cons, step_name (h m (by simp)), fold_names ms _ fun x hx => h x (by simp [hx])]
    simp
theorem fold_good : ∀ (ps acc : List ByteArray), (∀ p ∈ ps, p.size ≤ 16 ∧ ∀ b ∈ p.data.toList, plainB b.toNat = true) → (∀ x ∈ acc, nameZ x = true) → ∀ x ∈ ps.foldl stepN acc, nameZ x = true
  | [], acc, _, ha => ha
  | p :: ps, acc, h, ha => by
    rw [List.foldl_cons]
    refine fold_good ps _ (fun q hq => h q (by simp [hq])) fun x hx => ?_
    unfold stepN at hx
    split at hx
    · exact ha x hx
    · rename_i h1
      split at hx
      · exact ha x (List.mem_of_mem_take hx)
      · rename_i h2
        rcases List.mem_append.1 hx with hx | hx
        · exact ha x hx
        · simp at hx
          subst hx
          obtain ⟨h3, h4⟩ := h x (by simp)
          simp only [not_or] at h1
          rw [nameZ_iff]
          refine ⟨Nat.pos_of_ne_zero fun e => h1.1 (Array.eq_empty_of_size_eq_zero e), h3, fun e => h1.2 (by rw [e]), fun e => h2 (by rw [e]), h4⟩
/-- What 'Parse' lets in is a path. -/
theorem parse_good {s : ByteArray} (h : (parseZ s).2 = 0) : (parseZ s).1.length ≤ 8 ∧ ∀ x ∈ (parseZ s).1, nameZ x = true := by
  unfold parseZ at h ⊢
  split at h
  · simp at h
  · rename_i a1
    split at h
    · simp at h
    · rename_i a2
      split at h
      · simp at h
      · rename_i a3
        split at h
        · simp at h
        · rename_i a4
          split at h
          · simp at h
          · rename_i a5
            rw [if_neg a1, if_neg a2, if_neg a3, if_neg a4, if_neg a5]
            refine ⟨by simp; omega, ?_⟩
            have a3' : s.data.toList.all goodB = true := by simpa using a3
            have a4' : ∀ p ∈ pieces s, p.size ≤ 16 := by
              intro p hp
              refine Classical.byContradiction fun hh => a4 ?_
              rw [List.any_eq_true]
              exact ⟨p, hp, by simp; omega⟩
            refine fold_good _ _ (fun p hp => ⟨a4' p hp, fun b hb => ?_⟩) (by simp)
            obtain ⟨h1, h2⟩ := pcs_mem _ _ p hp b hb
            have h3 := List.all_eq_true.1 a3' b h1
            have h3' : (b == 47 || plainB b.toNat) = true := h3
            rcases Bool.or_eq_true_iff.1 h3' with h4 | h4
            · exact absurd (beq_iff_eq.1 h4) h2
            · exact h4
/-- 'Parse' of a text that was made of pieces. -/
theorem parse_text {s : ByteArray} {ms : List ByteArray} (hne : ms ≠ []) (hs : s.data.toList = Lib.joinTail [47] (ms.map (·.data.toList))) (hz : s.size ≤ 256) (h : ∀ x ∈ ms, x.size ≤ 16 ∧ x.data.toList ≠ [] ∧ ∀ b ∈ x.data.toList, plainB b.toNat = true) :
    parseZ s = if 8 < (foldN ms).length then ([], 42) else (foldN ms, 0) := by
  have hp := pieces_text hne hs fun x hx => ⟨fun hh => plain_47 ((h x hx).2.2 _ hh) rfl, (h x hx).2.1⟩
  have hsl : slashed s = true := by
    unfold slashed
    rw [hs]
    cases ms with
    | nil => exact absurd rfl hne
    | cons m r => simp [Lib.joinTail]
  have hg : s.data.toList.all goodB = true := by
    rw [List.all_eq_true]
    intro b hb
    rw [hs] at hb
    simp only [Lib.joinTail, List.map_map, List.mem_flatten, List.mem_map] at hb
    obtain ⟨l, ⟨x, hx, rfl⟩, hb⟩ := hb
    show (b == 47 || plainB b.toNat) = true
    simp at hb
    rcases hb with rfl | hb
    · rfl
    · rw [(h x hx).2.2 b (by simpa using hb), Bool.or_true]
  have hany : (pieces s).any (fun p => decide (16 < p.size)) = false := by
    rw [hp, List.any_eq_false]
    intro p hp'
    simp only [List.mem_cons] at hp'
    rcases hp' with rfl | hp'
    · have : (⟨#[]⟩ : ByteArray).size = 0 := rfl
      simp [this]
    · have := (h p hp').1
      simp
      omega
  have hf : foldN (pieces s) = foldN ms := by
    rw [hp]
    simp [foldN, stepN]
  unfold parseZ
  rw [if_neg (by omega), if_neg (by simp [hsl]), if_neg (by simp [hg]), hany, if_neg (by simp), hf]
end Go.Ab

/- The law of paths, run. -/
namespace Go.Ab
open Go Go.Proofs

/-- What is answered true is true, whatever memory it leaves. -/
theorem true_of {x : Option Out} {b : Bool} (h : x.bind frz0 = some (.ret (mkB b))) : ∃ m', x = some (.ret (mkB b), m') := by
  cases x with
  | none => cases h
  | some r =>
    obtain ⟨r1, m'⟩ := r
    cases r1 with
    | pan v => simp at h
    | ret v =>
      refine ⟨m', ?_⟩
      simp only [Option.bind_some, frz0_ret, Option.bind_eq_some_iff] at h
      obtain ⟨w, hw, h2⟩ := h
      cases h2
      cases v with
      | t xs => simp only [frzT_t, Option.bind_eq_some_iff] at hw; obtain ⟨y, _, hy⟩ := hw; cases hy
      | bad => cases hw
      | e te =>
        simp only [frzT_e, Option.bind_eq_some_iff] at hw
        obtain ⟨y, hy, h3⟩ := hw
        cases h3
        cases te with
        | a cs => simp only [frzE_a, Option.bind_eq_some_iff] at hy; obtain ⟨z, _, hz⟩ := hy; cases hz
        | c x =>
          simp only [frzE] at hy
          split at hy
          · rename_i z hz
            cases hy
            cases x with
            | p q => simp at hz; rw [hz]
            | tsl es => simp at hz
            | oref a b c d =>
              simp only [cond_false, frzC] at hz
              split at hz
              · rename_i o _
                rcases hc : (decide (0 ≤ a) && decide (c + d ≤ o.es.length)) with _ | _
                · rw [hc] at hz; cases hz
                · rw [hc, cond_true] at hz
                  split at hz <;> cases hz
              · cases hz
            | toref a b c d =>
              simp only [cond_false, frzC] at hz
              split at hz
              · rename_i o _
                rcases hc : (decide (0 ≤ a) && decide (c + d ≤ o.es.length)) with _ | _
                · rw [hc] at hz; cases hz
                · rw [hc, cond_true] at hz
                  split at hz <;> cases hz
              · cases hz
            | ref => cases hz
            | ip => cases hz
            | clo => cases hz
          · cases hy
theorem S12 (s : ByteArray) (hs : s.size ≤ 9223372036854775807) : ansI E 12 [tS s] = some (.ret (parseT s)) := by
  have : E.ext 12 = extF 12 := rfl
  unfold ansI ans
  rw [this]
  simp [extF, hs, parseT]
theorem S43 (l : List ByteArray) (h : l.length ≤ 140737488355328) (hj : (joinZ l ⟨#[47]⟩).size ≤ 140737488355328) : ansI E 43 [tN l, tS ⟨#[47]⟩] = some (.ret (mkS (joinZ l ⟨#[47]⟩))) := by
  have : E.ext 43 = extF 43 := rfl
  unfold ansI ans
  rw [this]
  simp [extF, h, hj]
/-- A path's text. -/
def showZ (l : List ByteArray) : ByteArray := ⟨#[47]⟩ ++ joinZ l ⟨#[47]⟩
theorem tail_len : ∀ (l : List ByteArray), (∀ x ∈ l, x.size ≤ 16) → (Lib.joinTail [47] (l.map (·.data.toList))).length ≤ 17 * l.length
  | [], _ => by simp [Lib.joinTail]
  | x :: l, h => by
    have ih := tail_len l fun y hy => h y (by simp [hy])
    have hx := h x (by simp)
    have hl : x.data.toList.length = x.size := by rw [Array.length_toList]; rfl
    have hj : Lib.joinTail [47] ((x :: l).map (·.data.toList)) = 47 :: (x.data.toList ++ Lib.joinTail [47] (l.map (·.data.toList))) := by simp [Lib.joinTail]
    rw [hj]
    simp only [List.length_cons, List.length_append]
    omega
theorem show_data (l : List ByteArray) : (showZ l).data.toList = if l = [] then [47] else Lib.joinTail [47] (l.map (·.data.toList)) := by
  unfold showZ joinZ
  cases l with
  | nil => simp [Lib.join_nil]
  | cons x l =>
    simp [Lib.join_cons, Lib.joinTail]
theorem join_size (l : List ByteArray) (h : ∀ x ∈ l, x.size ≤ 16) (hl : l.length ≤ 9) : (joinZ l ⟨#[47]⟩).size ≤ 200 := by
  have h1 := show_data l
  have h2 := tail_len l h
  have h3 : (showZ l).data.toList.length = 1 + (joinZ l ⟨#[47]⟩).size := by
    rw [Array.length_toList]
    show (showZ l).size = _
    unfold showZ
    rw [ByteArray.size_append]
    rfl
  by_cases hn : l = []
  · rw [h1, if_pos hn] at h3
    have h4 : 1 = 1 + (joinZ l ⟨#[47]⟩).size := h3
    omega
  · rw [h1, if_neg hn] at h3
    have h4 : 1 + (joinZ l ⟨#[47]⟩).size ≤ 17 * l.length := Nat.le_trans (Nat.le_of_eq h3.symm) h2
    omega
theorem S14 (l : List ByteArray) (h : ∀ x ∈ l, x.size ≤ 16) (hl : l.length ≤ 9) : ansI E 14 [tN l] = some (.ret (mkS (showZ l))) := by
  have hj := join_size l h hl
  have h43 := S43 l (by omega) (by omega)
  have h1 : 1 + (joinZ l ⟨#[47]⟩).size ≤ 9223372036854775807 := by omega
  have h0 : (⟨#[47]⟩ : ByteArray).size = 1 := rfl
  rw [ansI_none rfl, C14]
  simp [callI_eq, h43, acat, h0, h1, showZ]
theorem S16 (s : ByteArray) (hs : s.size ≤ 9223372036854775807) (l : List ByteArray) (hp : parseZ s = (l, 0)) (h : ∀ x ∈ l, x.size ≤ 16) (hl : l.length ≤ 9) :
    ansI E 16 [tS s] = some (.ret (.t [tS (showZ l), .c (.p (.c (.int .i64 0)))])) := by
  have h12 := S12 s hs
  have h14 := S14 l h hl
  rw [ansI_none rfl, C16]
  simp [callI_eq, h12, parseT, hp, h14]
theorem parse_demo : parseZ ⟨#[47, 97, 47, 46, 47, 98, 47, 47, 99, 47, 46, 46, 47, 100, 47]⟩ = ([⟨#[97]⟩, ⟨#[98]⟩, ⟨#[100]⟩], 0) := by decide +kernel
theorem parse_demo2 : parseZ ⟨#[97]⟩ = ([], 40) := by decide +kernel
theorem show_demo : showZ [⟨#[97]⟩, ⟨#[98]⟩, ⟨#[100]⟩] = ⟨#[47, 97, 47, 98, 47, 100]⟩ := ba_ext (by
  rw [show_data]
  rfl)
theorem S11 : ansI E 11 [] = some (.ret (mkB true)) := by
  have h16 := S16 ⟨#[47, 97, 47, 46, 47, 98, 47, 47, 99, 47, 46, 46, 47, 100, 47]⟩ (by decide) _ parse_demo (by decide) (by decide)
  have h12 := S12 ⟨#[97]⟩ (by decide)
  rw [show_demo] at h16
  rw [ansI_none rfl, C11]
  simp [callI_eq, h16, h12, parseT, parse_demo2]
/-- The path with a stroke behind it, where it has names. -/
def stemZ (l : List ByteArray) : ByteArray := if l = [] then showZ l else showZ l ++ ⟨#[47]⟩
theorem stem_data (l : List ByteArray) (x : ByteArray) : (stemZ l ++ x).data.toList = Lib.joinTail [47] ((l ++ [x]).map (·.data.toList)) := by
  unfold stemZ
  by_cases h : l = []
  · subst h
    have := show_data []
    rw [if_pos rfl] at this
    simp [this, Lib.joinTail]
  · have := show_data l
    rw [if_neg h] at this
    rw [if_neg h]
    simp [this, Lib.joinTail]
theorem back_data (l : List ByteArray) (x : ByteArray) : (stemZ l ++ x ++ ⟨#[47, 46, 46]⟩).data.toList = Lib.joinTail [47] ((l ++ [x] ++ [(⟨#[46, 46]⟩ : ByteArray)]).map (·.data.toList)) := by
  have := stem_data l x
  rw [ByteArray.data_append, Array.toList_append, this]
  simp [Lib.joinTail]
theorem name_piece {x : ByteArray} (h : nameZ x = true) : x.size ≤ 16 ∧ x.data.toList ≠ [] ∧ ∀ b ∈ x.data.toList, plainB b.toNat = true :=
  ⟨(nameZ_iff.1 h).2.1, (name_free h).2, (nameZ_iff.1 h).2.2.2.2⟩
theorem parse_stem {l : List ByteArray} {x : ByteArray} (hl : ∀ y ∈ l, nameZ y = true) (hx : nameZ x = true) (hz : (stemZ l ++ x).size ≤ 256) :
    parseZ (stemZ l ++ x) = if 8 < l.length + 1 then ([], 42) else (l ++ [x], 0) := by
  have hall : ∀ y ∈ l ++ [x], nameZ y = true := by
    intro y hy
    rcases List.mem_append.1 hy with hy | hy
    · exact hl y hy
    · simp at hy
      exact hy ▸ hx
  have hf : foldN (l ++ [x]) = l ++ [x] := by
    have := fold_names (l ++ [x]) [] hall
    simpa [foldN] using this
  rw [parse_text (by simp) (stem_data l x) hz fun y hy => name_piece (hall y hy), hf]
  simp
theorem parse_back {l : List ByteArray} {x : ByteArray} (hl : ∀ y ∈ l, nameZ y = true) (hx : nameZ x = true) (hz : (stemZ l ++ x ++ ⟨#[47, 46, 46]⟩).size ≤ 256) (h8 : l.length ≤ 8) :
    parseZ (stemZ l ++ x ++ ⟨#[47, 46, 46]⟩) = (l, 0) := by
  have hall : ∀ y ∈ l ++ [x], nameZ y = true := by
    intro y hy
    rcases List.mem_append.1 hy with hy | hy
    · exact hl y hy
    · simp at hy
      exact hy ▸ hx
  have hf : foldN (l ++ [x] ++ [(⟨#[46, 46]⟩ : ByteArray)]) = l := by
    have h0 : foldN (l ++ [x]) = l ++ [x] := by
      have := fold_names (l ++ [x]) [] hall
      simpa [foldN] using this
    rw [foldN_snoc, h0]
    simp [stepN]
  rw [parse_text (ms := l ++ [x] ++ [(⟨#[46, 46]⟩ : ByteArray)]) (by simp) (back_data l x) hz, hf, if_neg (by omega)]
  intro y hy
  rcases List.mem_append.1 hy with hy | hy
  · exact name_piece (hall y hy)
  · simp at hy
    subst hy
    exact ⟨by decide, by decide, by decide⟩
theorem J3 (l : List ByteArray) (x : ByteArray) (hl : ∀ y ∈ l, nameZ y = true) (h8 : l.length ≤ 8) (hx : nameZ x = true) (m : Mem) : (J3_9 x (tN l) (stemZ l) m).bind frz0 = some (.ret (mkB true)) := by
  have hlz : ∀ y ∈ l, y.size ≤ 16 := fun y hy => (name_piece (hl y hy)).1
  have hxz := (name_piece hx).1
  have hst : (stemZ l).size ≤ 210 := by
    have h1 := join_size l hlz (by omega)
    have h2 : (showZ l).size = 1 + (joinZ l ⟨#[47]⟩).size := by
      unfold showZ
      rw [ByteArray.size_append]
      rfl
    unfold stemZ
    split
    · omega
    · rw [ByteArray.size_append]
      have : (⟨#[47]⟩ : ByteArray).size = 1 := rfl
      omega
  have e1 : IntKind.i64.wrap ((stemZ l).size + x.size : Int) = ((stemZ l).size + x.size : Int) := in_i64 (by omega)
  have e2 : IntKind.i64.wrap ((stemZ l).size + x.size + 3 : Int) = ((stemZ l).size + x.size + 3 : Int) := in_i64 (by omega)
  by_cases hbig : (256 : Int) < (stemZ l).size + x.size + 3
  · rw [J3_9_eq]
    simp [e1, e2, hbig]
  · have hsz : (stemZ l ++ x).size = (stemZ l).size + x.size := by rw [ByteArray.size_append]
    have hsz3 : (stemZ l ++ x ++ ⟨#[47, 46, 46]⟩).size = (stemZ l).size + x.size + 3 := by
      rw [ByteArray.size_append, hsz]
      rfl
    have hp := parse_stem hl hx (by omega)
    have h12 := S12 (stemZ l ++ x) (by omega)
    have c1 : (stemZ l).size + x.size ≤ 9223372036854775807 := by omega
    have c2 : (stemZ l).size + x.size + (⟨#[47, 46, 46]⟩ : ByteArray).size ≤ 9223372036854775807 := by
      have : (⟨#[47, 46, 46]⟩ : ByteArray).size = 3 := rfl
      omega
    by_cases h : l.length = 8
    · rw [if_pos (by omega)] at hp
      have hi : (l.length : Int) = 8 := by omega
      rw [J3_9_eq]
      simp [e1, e2, hbig, acat, c1, callI_eq, h12, parseT, hp, hi]
    · rw [if_neg (by omega)] at hp
      have hi : ¬ (l.length : Int) = 8 := by omega
      have hb := parse_back hl hx (by omega) h8
      obtain ⟨b, hbl⟩ : ∃ b, b = l ++ [x] := ⟨_, rfl⟩
      rw [← hbl] at hp
      have hball : b.all nameZ = true := by
        rw [List.all_eq_true, hbl]
        intro y hy
        rcases List.mem_append.1 hy with hy | hy
        · exact hl y hy
        · simp at hy
          exact hy ▸ hx
      have h15 := S15 l b x hbl (by omega) hball
      have h16 := S16 (stemZ l ++ x ++ ⟨#[47, 46, 46]⟩) (by omega) l hb hlz (by omega)
      have h17 := S17 l (by omega)
      have h18 := S18 l b x hbl (by omega)
      have h18' := S18' l b x hbl
      have h19 := S19 l b x hbl (by omega)
      have h14 := S14 l hlz (by omega)
      rw [J3_9_eq]
      simp [e1, e2, hbig, acat, c1, c2, callI_eq, h12, parseT, hp, hi, h15, h16, h17, h18, h18', h19, h14]
theorem L3 (s x : ByteArray) (hs : s.size ≤ 9223372036854775807) (hx : x.size ≤ 9223372036854775807) : ∃ m', ex E (entry E.P 3 [tS s, tS x] []) = some (.ret (mkB true), m') := by
  refine true_of ?_
  have h12 := S12 s hs
  have h13 := S13 x
  rw [C3]
  by_cases h0 : (parseZ s).2 = 0
  · obtain ⟨h8, hl⟩ := parse_good h0
    have hlz : ∀ y ∈ (parseZ s).1, y.size ≤ 16 := fun y hy => (name_piece (hl y hy)).1
    have h14 := S14 _ hlz (by omega)
    cases hn : nameZ x with
    | false =>
      rw [hn] at h13
      simp [callI_eq, S11, h12, parseT, h0, h13]
    | true =>
      rw [hn] at h13
      have hj := J3 _ x hl h8 hn []
      unfold stemZ at hj
      have hss : (showZ (parseZ s).1).size + (⟨#[47]⟩ : ByteArray).size ≤ 9223372036854775807 := by
        have h1 := join_size _ hlz (by omega)
        have h2 : (showZ (parseZ s).1).size = 1 + (joinZ (parseZ s).1 ⟨#[47]⟩).size := by
          unfold showZ
          rw [ByteArray.size_append]
          rfl
        have : (⟨#[47]⟩ : ByteArray).size = 1 := rfl
        omega
      obtain ⟨l, hll⟩ : ∃ l, l = (parseZ s).1 := ⟨_, rfl⟩
      rw [← hll] at hj h14 hss
      have h12' : ansI E 12 [tS s] = some (.ret (.t [tN l, .c (.p (.c (.int .i64 0)))])) := by
        rw [h12, parseT, h0, hll]
      by_cases hne : l = []
      · rw [if_pos hne] at hj
        subst hne
        simp [callI_eq, S11, h12', h13]
        have h14' : ansI E 14 [TE.c (CV.p (PV.sl []))] = some (.ret (mkS (showZ []))) := h14
        simp only [h14', Option.bind_some, asS_S]
        exact hj
      · rw [if_neg hne] at hj
        have hpos : 0 < l.length := List.length_pos_iff.2 hne
        simp [callI_eq, S11, h12', h13, h14, hpos, acat, hss, hj]
  · simp [callI_eq, S11, h12, parseT, h0]
end Go.Ab
