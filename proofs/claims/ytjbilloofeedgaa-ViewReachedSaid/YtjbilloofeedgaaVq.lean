/- What the functions of the view laws answer. -/
import Derived.Test.YtjbilloofeedgaaVp
set_option linter.unusedVariables false
set_option linter.unusedSimpArgs false
/- What the functions of 'view' answer. -/
namespace Go.Ab
open Go

abbrev tI (n : Int) : TE := .c (.p (.c (.int .i64 n)))
def primaryZ (v n : Int) : Int := if v < 0 then -1 else if n < 1 then -1 else v.tmod n
def quorumZ (n : Int) : Int := if n < 1 then 0 else n / 2 + 1
def waitZ (n : Int) : Int := if n < 0 then 0 else if 7 ≤ n then 0 else 8 + 2 * n
def nextZ (v id n : Int) : Int :=
  if v < 0 then -1 else if 1099511627776 < v then -1 else if id < 0 then -1 else if n ≤ id then -1 else
    let k := v - v % n + id
    let k' := if k ≤ v then (if 1099511627776 - n < k then -1 else k + n) else k
    if 1099511627776 < k' then -1 else k'
theorem S27 (v n : Int) : ansI E 27 [tI v, tI n] = some (.ret (mkI .i64 (primaryZ v n))) := by
  rw [ansI_none rfl, C27]
  simp [primaryZ]
  repeat' split
  all_goals simp_all
  all_goals omega
theorem S28 (v n : Int) : ansI E 28 [tI v, tI n] = some (.ret (mkI .i64 (primaryZ v n))) := by
  rw [ansI_none rfl, C28]
  simp [primaryZ]
  repeat' split
  all_goals simp_all
  all_goals omega
theorem S29 (n : Int) (h : Has .i64 n) : ansI E 29 [tI n] = some (.ret (mkI .i64 (quorumZ n))) := by
  rw [has_i64] at h
  rw [ansI_none rfl, C29]
  by_cases h1 : n < 1
  · simp [quorumZ, h1]
  · have h2 : n.tdiv 2 = n / 2 := Int.tdiv_eq_ediv_of_nonneg (by omega)
    simp [quorumZ, h1, h2, wrap_i64]
    omega
theorem S30 (n : Int) (h : Has .i64 n) : ansI E 30 [tI n] = some (.ret (mkI .i64 (quorumZ n))) := by
  rw [has_i64] at h
  rw [ansI_none rfl, C30]
  by_cases h1 : n < 1
  · simp [quorumZ, h1]
  · have h2 : IntKind.i64.wrap (n - 1) = n - 1 := in_i64 (by omega)
    have h3 : (n - 1).tdiv 2 = (n - 1) / 2 := Int.tdiv_eq_ediv_of_nonneg (by omega)
    simp [quorumZ, h1, h2, h3, wrap_i64]
    omega
theorem S31 (n : Int) : ansI E 31 [tI n] = some (.ret (mkI .i64 (waitZ n))) := by
  rw [ansI_none rfl, C31]
  simp [waitZ]
  repeat' split
  all_goals simp_all [wrap_i64]
  all_goals omega
theorem S32 (n : Int) : ansI E 32 [tI n] = some (.ret (mkI .i64 (waitZ n))) := by
  rw [ansI_none rfl, C32]
  simp [waitZ]
  repeat' split
  all_goals simp_all [wrap_i64]
  all_goals omega
theorem S33 (v id n : Int) (hn : Has .i64 n) (hi : Has .i64 id) : ansI E 33 [tI v, tI id, tI n] = some (.ret (mkI .i64 (nextZ v id n))) := by
  rw [has_i64] at hn hi
  rw [ansI_none rfl, C33]
  by_cases h1 : v < 0
  · simp [nextZ, h1]
  by_cases h2 : 1099511627776 < v
  · simp [nextZ, h1, h2]
  by_cases h3 : id < 0
  · simp [nextZ, h1, h2, h3]
  by_cases h4 : n ≤ id
  · simp [nextZ, h1, h2, h3, h4]
  have h5 : v.tmod n = v % n := Int.tmod_eq_emod_of_nonneg (by omega)
  have h6 := Int.emod_nonneg v (show n ≠ 0 by omega)
  have h7 := Int.emod_lt_of_pos v (show 0 < n by omega)
  have h8 : v % n ≤ v := by
    have := Int.mul_ediv_add_emod v n
    have h9 : 0 ≤ v / n := Int.ediv_nonneg (by omega) (by omega)
    have h10 : 0 ≤ n * (v / n) := Int.mul_nonneg (by omega) h9
    omega
  have h0 : ¬ (n = 0) := by omega
  have h11 : n ≤ v ∨ v % n = v := by
    by_cases h : v < n
    · exact .inr (Int.emod_eq_of_lt (by omega) h)
    · exact .inl (by omega)
  generalize hr : v % n = r at *
  have e1 : IntKind.i64.wrap (v - r) = v - r := in_i64 (by omega)
  have e2 : IntKind.i64.wrap (v - r + id) = v - r + id := in_i64 (by omega)
  have e3 : IntKind.i64.wrap (1099511627776 - n) = 1099511627776 - n := in_i64 (by omega)
  simp [nextZ, h1, h2, h3, h4, h5, h0, e1, e2, e3, J33_8_eq, hr]
  by_cases h12 : v - r + id ≤ v
  · by_cases h13 : 1099511627776 - n < v - r + id
    · simp [h12, h13]
    · have e4 : IntKind.i64.wrap (v - r + id + n) = v - r + id + n := in_i64 (by omega)
      simp [h12, h13, e4]
      split <;> simp
  · simp [h12]
    split <;> simp
theorem J34_false (v many id n : Int) (m : Mem) (hv : 0 ≤ v ∧ v ≤ 1099511627776) (h : ∀ i, 1 ≤ i → i ≤ many → primaryZ (v + i) n ≠ id) : ∀ (k : Nat) (i : Int), 1 ≤ i → 1001 - i ≤ k → i ≤ 1001 → (J34_2 v many id n i m).bind frz0 = some (.ret (mkB false))
  | 0, i, h1, h2, h3 => by
    rw [J34_2_eq]
    have h4 : ¬ (i ≤ 1000) := by omega
    simp [h4]
  | k + 1, i, h1, h2, h3 => by
    rw [J34_2_eq]
    by_cases h4 : i ≤ many
    · by_cases h5 : i ≤ 1000
      · have e1 : IntKind.i64.wrap (v + i) = v + i := in_i64 (by omega)
        have e2 : IntKind.i64.wrap (i + 1) = i + 1 := in_i64 (by omega)
        simp [h4, h5, e1, e2, callI_eq, S28, h i h1 h4]
        exact J34_false v many id n m hv h k (i + 1) (by omega) (by omega) (by omega)
      · simp [h5]
    · simp [h4]
theorem S34 (v many id n : Int) (hv : 0 ≤ v ∧ v ≤ 1099511627776) (h : ∀ i, 1 ≤ i → i ≤ many → primaryZ (v + i) n ≠ id) : ansI E 34 [tI v, tI many, tI id, tI n] = some (.ret (mkB false)) := by
  rw [ansI_none rfl, C34]
  exact J34_false v many id n [] hv h 1000 1 (by omega) (by omega) (by omega)
/-- Which of two numbers is less. -/
def cmpZ (a b : Int) : Int := if a < b then -1 else if b < a then 1 else 0
theorem S99 (a : Int) : ansI E 99 [tI a] = some (.ret (mkB false)) := by
  rw [ansI_none rfl, C99]
  simp
theorem S100 (a : Int) : ansI E 100 [tI a] = some (.ret (mkB false)) := by
  rw [ansI_none rfl, C100]
  simp
theorem S91 (a b : Int) : ansI E 91 [tI a, tI b] = some (.ret (mkI .i64 (cmpZ a b))) := by
  rw [ansI_none rfl, C91]
  simp [callI_eq, S99, cmpZ]
  repeat' split
  all_goals rfl
theorem S92 (a b : Int) : ansI E 92 [tI a, tI b] = some (.ret (mkI .i64 (cmpZ a b))) := by
  rw [ansI_none rfl, C92]
  simp [callI_eq, S100, cmpZ]
  repeat' split
  all_goals rfl
theorem S90 (a b c : Int) : ansI E 90 [.c (.p (.sl [[.c (.int .i64 a)], [.c (.int .i64 b)], [.c (.int .i64 c)]]))] = some (.ret (mkI .i64 (if a ≠ 0 then a else if b ≠ 0 then b else c))) := by
  rw [ansI_none rfl, C90]
  have e1 : IntKind.i64.wrap 1 = 1 := by decide
  have e2 : IntKind.i64.wrap 2 = 2 := by decide
  have e3 : IntKind.i64.wrap 3 = 3 := by decide
  simp
  by_cases ha : a = 0
  · by_cases hb : b = 0
    · by_cases hc : c = 0
      · iterate 4 (try rw [J90_3_eq]; simp [aidx, ha, hb, hc, e1, e2, e3])
      · iterate 3 (rw [J90_3_eq]; simp [aidx, ha, hb, hc, e1, e2])
    · iterate 2 (rw [J90_3_eq]; simp [aidx, ha, hb, e1])
  · rw [J90_3_eq]; simp [aidx, ha]
structure Vote where
  r : Int
  n : Int
  l : Int
deriving DecidableEq
def encV (v : Vote) : List PV := [.c (.int .i64 v.r), .c (.int .i64 v.n), .c (.int .i64 v.l)]
abbrev tV (v : Vote) : TE := .a [.p (.c (.int .i64 v.r)), .p (.c (.int .i64 v.n)), .p (.c (.int .i64 v.l))]
abbrev tVs (l : List Vote) : TE := .c (.p (.sl (l.map encV)))
/-- Which of two votes is better: below 0: the first. -/
def betterZ (a b : Vote) : Int := if cmpZ b.n a.n ≠ 0 then cmpZ b.n a.n else if cmpZ b.l a.l ≠ 0 then cmpZ b.l a.l else cmpZ a.r b.r
theorem S74 (a b : Vote) : ansI E 74 [tV a, tV b] = some (.ret (mkI .i64 (betterZ a b))) := by
  rw [ansI_none rfl, C74]
  simp [aload_ref, boxObj, callI_eq, S91, S92, S90, afillS, frzE, frzC, isOref, betterZ]
/-- The better of the votes. -/
def minV (c : Vote) (l : List Vote) : Vote := l.foldl (fun c v => if betterZ v c < 0 then v else c) c
abbrev boxV (v : Vote) : AObj := ⟨0, 3, 55, true, [[.p (.c (.int .i64 v.r)), .p (.c (.int .i64 v.n)), .p (.c (.int .i64 v.l))]]⟩
theorem J73 (l : List Vote) (hl : l.length ≤ 9223372036854775807) (m0 : Vote) : ∀ (k i : Nat) (c : Vote), i + k = l.length → ∃ m', J73_5 (tVs l) (.c (.ref 0 0 0 0)) (.c (.ref 1 0 0 0)) i [boxV m0, boxV c] = some (.ret (.e (tV (minV c (l.drop i)))), m')
  | 0, i, c, h => by
    rw [J73_5_eq]
    have : ¬ ((i : Int) < (l.length : Int)) := by omega
    have hd : l.drop i = [] := List.drop_eq_nil_of_le (by omega)
    simp [this, aload_ref, astore, pick, updC, hd, minV]
  | k + 1, i, c, h => by
    rw [J73_5_eq]
    have hlt : i < l.length := by omega
    have h1 : ((i : Int) < (l.length : Int)) := by omega
    have hv : l[i]? = some l[i] := List.getElem?_eq_getElem hlt
    have e1 : IntKind.i64.wrap ((i : Int) + 1) = (i : Int) + 1 := in_i64 (by omega)
    have hd : minV c (l.drop i) = minV (if betterZ l[i] c < 0 then l[i] else c) (l.drop (i + 1)) := by rw [List.drop_eq_getElem_cons hlt]; rfl
    rw [hd]
    clear hd
    obtain ⟨m1, ih1⟩ := J73 l hl m0 k (i + 1) l[i] (by omega)
    obtain ⟨m2, ih2⟩ := J73 l hl m0 k (i + 1) c (by omega)
    push_cast at ih1 ih2
    have ha := fun m => aidx_map (enc := encV) (k := 3) (m := m) hv rfl
    by_cases hb : betterZ l[i] c < 0
    · refine ⟨m1, ?_⟩
      simp [h1, ha, encV, aload_ref, pick, callI_eq, S74, hb, astore, updC, J73_6_eq, e1]
      exact ih1
    · refine ⟨m2, ?_⟩
      simp [h1, ha, encV, aload_ref, pick, callI_eq, S74, hb, J73_6_eq, e1]
      exact ih2
end Go.Ab

/- What the functions of 'view' answer, more: the best vote, what most have reached. -/
namespace Go.Ab
open Go

theorem A73 (v : Vote) (l : List Vote) (hl : (v :: l).length ≤ 9223372036854775807) : ∃ m', ans E 73 [tVs (v :: l), .c (.clo 74 [] [])] [] = some (.ret (.e (tV (minV v l))), m') := by
  obtain ⟨m', h⟩ := J73 (v :: l) hl ⟨0, 0, 0⟩ l.length 1 v (by simp; omega)
  refine ⟨m', ?_⟩
  rw [ans_none rfl, C73]
  have h1 : ¬ ((l.length : Int) + 1 < 1) := by omega
  have ha : ∀ m, aidx 3 (.e (tVs (v :: l))) 0 m = some (.ip (encV v) 0) := fun m => aidx_map (l := v :: l) (i := 0) rfl rfl
  simp [h1, ha, encV, pick, astore, boxObj, updC]
  simpa [encV] using h
/-- Where it stands first. -/
def firstIdx (v : Vote) : List Vote → Nat → Int
  | [], _ => -1
  | x :: xs, i => if v = x then i else firstIdx v xs (i + 1)
theorem J72 (l : List Vote) (hl : l.length ≤ 9223372036854775807) (v : Vote) : ∀ (k i : Nat), i + k = l.length → (J72_2 (tVs l) (.c (.ref 0 0 0 0)) l.length i [boxV v]).bind frz0 = some (.ret (mkI .i64 (firstIdx v (l.drop i) i)))
  | 0, i, h => by
    rw [J72_2_eq]
    have : ¬ ((i : Int) < (l.length : Int)) := by omega
    have hd : l.drop i = [] := List.drop_eq_nil_of_le (by omega)
    simp [this, hd, firstIdx]
  | k + 1, i, h => by
    rw [J72_2_eq]
    have hlt : i < l.length := by omega
    have h1 : ((i : Int) < (l.length : Int)) := by omega
    have hv : l[i]? = some l[i] := List.getElem?_eq_getElem hlt
    have e1 : IntKind.i64.wrap ((i : Int) + 1) = (i : Int) + 1 := in_i64 (by omega)
    have hd : firstIdx v (l.drop i) i = if v = l[i] then (i : Int) else firstIdx v (l.drop (i + 1)) (i + 1) := by rw [List.drop_eq_getElem_cons hlt]; rfl
    rw [hd]
    clear hd
    have ih := J72 l hl v k (i + 1) (by omega)
    push_cast at ih
    have ha := fun m => aidx_map (enc := encV) (k := 3) (m := m) hv rfl
    have hc : (v = l[i]) ↔ (v.r = l[i].r ∧ v.n = l[i].n ∧ v.l = l[i].l) := by
      generalize l[i] = u
      cases v
      cases u
      simp
    by_cases hb : v.r = l[i].r ∧ v.n = l[i].n ∧ v.l = l[i].l
    · rw [if_pos (hc.2 hb)]
      simp [h1, ha, encV, aload_ref, pick, acmp, aeq, cellsEq, oneEq, hb]
    · rw [if_neg (fun h => hb (hc.1 h))]
      have hb' : (v.r == l[i].r && (v.n == l[i].n && v.l == l[i].l)) = false := by
        rw [Bool.eq_false_iff]
        intro h
        simp at h
        exact hb h
      simp [h1, ha, encV, aload_ref, pick, acmp, aeq, cellsEq, oneEq, hb', e1]
      exact ih
theorem S72 (l : List Vote) (hl : l.length ≤ 9223372036854775807) (v : Vote) : ansI E 72 [tVs l, tV v] = some (.ret (mkI .i64 (firstIdx v l 0))) := by
  rw [ansI_none rfl, C72]
  have := J72 l hl v l.length 0 (by omega)
  simpa [boxObj] using this
/-- The place of the best vote. -/
def bestZ : List Vote → Int
  | [] => -1
  | v :: l => firstIdx (minV v l) (v :: l) 0
theorem S35 (l : List Vote) (hl : l.length ≤ 9223372036854775807) : ansI E 35 [tVs l] = some (.ret (mkI .i64 (bestZ l))) := by
  rw [ansI_none rfl, C35]
  cases l with
  | nil => simp [bestZ]
  | cons v l =>
    obtain ⟨m', h⟩ := A73 v l hl
    have h72 := S72 (v :: l) hl (minV v l)
    obtain ⟨es, he⟩ : ∃ es, (v :: l).map encV = es := ⟨_, rfl⟩
    have h1 : ¬ ((es.length : Int) = 0) := by rw [← he]; simp; omega
    rw [tVs, he] at h h72 ⊢
    have h1' : ¬ es = [] := fun h => by simp [h] at h1
    simp [h1', callW_ret h, callI_eq, h72, bestZ]
/-- Is the first one better? -/
def btr (a b : Vote) : Prop := b.n < a.n ∨ a.n = b.n ∧ (b.l < a.l ∨ a.l = b.l ∧ a.r < b.r)
instance (a b : Vote) : Decidable (btr a b) := by unfold btr; infer_instance
theorem betterZ_neg (a b : Vote) : betterZ a b < 0 ↔ btr a b := by
  unfold betterZ btr cmpZ
  repeat' split
  all_goals omega
/-- The reference's way: the place and the vote that is best so far. -/
def refGo (l : List Vote) : Nat → Nat → Int → Int
  | 0, _, b => b
  | k + 1, i, b => refGo l k (i + 1) (if b < 0 then (i : Int) else match l[i]?, l[b.toNat]? with
    | some x, some y => if btr x y then (i : Int) else b
    | _, _ => b)
theorem J36 (l : List Vote) (hl : l.length ≤ 9223372036854775807) : ∀ (k i : Nat) (b : Int) (m : Mem), i + k = l.length → -1 ≤ b → b < i → (J36_3 (tVs l) b i m).bind frz0 = some (.ret (mkI .i64 (refGo l k i b)))
  | 0, i, b, m, h, _, _ => by
    rw [J36_3_eq]
    have : ¬ ((i : Int) < (l.length : Int)) := by omega
    simp [this, refGo]
  | k + 1, i, b, m, h, hb, hb' => by
    rw [J36_3_eq]
    have hlt : i < l.length := by omega
    have h1 : ((i : Int) < (l.length : Int)) := by omega
    have hv : l[i]? = some l[i] := List.getElem?_eq_getElem hlt
    have e1 : IntKind.i64.wrap ((i : Int) + 1) = (i : Int) + 1 := in_i64 (by omega)
    have ha := fun m => aidx_map (enc := encV) (k := 3) (m := m) hv rfl
    have ih1 := fun m => J36 l hl k (i + 1) i m (by omega) (by omega) (by omega)
    have ih2 := fun m => J36 l hl k (i + 1) b m (by omega) (by omega) (by omega)
    push_cast at ih1 ih2
    have ihJ1 : ∀ m, (J36_4 (tVs l) i i m).bind frz0 = some (.ret (mkI .i64 (refGo l k (i + 1) i))) := fun m => by
      rw [J36_4_eq]
      simp only [ar_add, Option.bind_some, e1]
      exact ih1 m
    have ihJ2 : ∀ m, (J36_4 (tVs l) b i m).bind frz0 = some (.ret (mkI .i64 (refGo l k (i + 1) b))) := fun m => by
      rw [J36_4_eq]
      simp only [ar_add, Option.bind_some, e1]
      exact ih2 m
    by_cases h0 : b < 0
    · simp [h1, h0, refGo, ihJ1]
    · obtain ⟨j, rfl⟩ : ∃ j : Nat, b = j := ⟨b.toNat, by omega⟩
      have hjl : j < l.length := by omega
      have hj : l[j]? = some l[j] := List.getElem?_eq_getElem hjl
      have hb3 := fun m => aidx_map (enc := encV) (k := 3) (m := m) hj rfl
      have hr : refGo l (k + 1) i j = refGo l k (i + 1) (if btr l[i] l[j] then (i : Int) else j) := by
        simp [refGo, hv, hj, h0]
      rw [hr]
      clear hr
      generalize hx : l[i] = x at *
      generalize hy : l[j] = y at *
      have hat : ∀ (o o' : AObj) (ver : Nat), (m ++ [o, o']).at? m.length ver = cond (o.live && o.ver == ver) (some o) none := fun o o' ver => by simp [Mem.at?]
      simp [h1, h0, ha, hb3, encV, aload_ref, pick, astore, boxObj, updC, at?_app, hat]
      simp only [ihJ1, ihJ2]
      repeat' split
      all_goals first
        | rfl
        | (exfalso; unfold btr at *; omega)
theorem S36 (l : List Vote) (hl : l.length ≤ 9223372036854775807) : ansI E 36 [tVs l] = some (.ret (mkI .i64 (refGo l l.length 0 (-1)))) := by
  rw [ansI_none rfl, C36]
  exact J36 l hl l.length 0 (-1) [] (by omega) (by omega) (by omega)

/-! ### What most have reached -/
abbrev tIs (l : List Int) : TE := .c (.p (.sl (l.map encI)))
theorem S37 (l : List Int) (hl : l.length * 8 ≤ reachBytes') : ansI E 37 [tIs l] = some (.ret (mkI .i64 (reachedZ l))) := by
  simp [ansI, ans_ext (E := E) (g := 37) rfl, hl]
/-- How many are at least so much. -/
def geZ (l : List Int) (x : Int) : Nat := l.countP fun y => decide (x ≤ y)
/-- The reference's way. -/
def refR (l : List Int) : List Int → Int → Bool → Int
  | [], b, _ => b
  | x :: xs, b, f => if quorumZ l.length ≤ geZ l x then (if f = false then refR l xs x true else if b < x then refR l xs x true else refR l xs b f) else refR l xs b f
theorem J38_in (l : List Int) (hl : l.length ≤ 9223372036854775807) (b : Int) (f : Bool) (i : Nat) (x : Int) (hx : l[i]? = some x) (m : Mem) : ∀ (k j : Nat), j + k = l.length →
    J38_8 (tIs l) b f i ((geZ (l.take j) x : Nat) : Int) j m = J38_8 (tIs l) b f i (geZ l x : Nat) l.length m
  | 0, j, h => by
    obtain rfl : j = l.length := by omega
    rw [List.take_length]
  | k + 1, j, h => by
    rw [← J38_in l hl b f i x hx m k (j + 1) (by omega), J38_8_eq]
    have hlt : j < l.length := by omega
    have h1 : ((j : Int) < (l.length : Int)) := by omega
    have hv : l[j]? = some l[j] := List.getElem?_eq_getElem hlt
    have e1 : IntKind.i64.wrap ((j : Int) + 1) = (j : Int) + 1 := in_i64 (by omega)
    have ha := fun m => aidx_map (enc := encI) (k := 1) (m := m) hv rfl
    have hb := fun m => aidx_map (enc := encI) (k := 1) (m := m) hx rfl
    have hg : geZ (l.take (j + 1)) x = geZ (l.take j) x + if x ≤ l[j] then 1 else 0 := by
      unfold geZ
      rw [List.take_succ_eq_append_getElem hlt, List.countP_append]
      by_cases h : x ≤ l[j] <;> simp [h]
    have hg2 : geZ (l.take j) x ≤ j := by
      have := List.countP_le_length (p := fun y => decide (x ≤ y)) (l := l.take j)
      simp at this
      unfold geZ
      omega
    rw [hg]
    by_cases h2 : x ≤ l[j]
    · have e2 : IntKind.i64.wrap ((geZ (l.take j) x : Int) + 1) = (geZ (l.take j) x : Int) + 1 := in_i64 (by omega)
      simp [h1, ha, hb, encI, h2, e2, J38_9_eq, e1]
    · simp [h1, ha, hb, encI, h2, J38_9_eq, e1]
theorem J38 (l : List Int) (hl : l.length ≤ 9223372036854775807) (m : Mem) : ∀ (k i : Nat) (b : Int) (f : Bool), i + k = l.length → (J38_4 (tIs l) b f i m).bind frz0 = some (.ret (mkI .i64 (refR l (l.drop i) b f)))
  | 0, i, b, f, h => by
    rw [J38_4_eq]
    have : ¬ ((i : Int) < (l.length : Int)) := by omega
    have hd : l.drop i = [] := List.drop_eq_nil_of_le (by omega)
    simp [this, hd, refR]
  | k + 1, i, b, f, h => by
    rw [J38_4_eq]
    have hlt : i < l.length := by omega
    have h1 : ((i : Int) < (l.length : Int)) := by omega
    have hv : l[i]? = some l[i] := List.getElem?_eq_getElem hlt
    have e1 : IntKind.i64.wrap ((i : Int) + 1) = (i : Int) + 1 := in_i64 (by omega)
    have ha := fun m => aidx_map (enc := encI) (k := 1) (m := m) hv rfl
    have hin := J38_in l hl b f i l[i] hv m l.length 0 (by omega)
    have hd : l.drop i = l[i] :: l.drop (i + 1) := List.drop_eq_getElem_cons hlt
    have ihJ : ∀ b f, (J38_5 (tIs l) b f i m).bind frz0 = some (.ret (mkI .i64 (refR l (l.drop (i + 1)) b f))) := fun b f => by
      rw [J38_5_eq]
      simp only [ar_add, Option.bind_some, e1]
      exact J38 l hl m k (i + 1) b f (by omega)
    rw [hd, refR]
    clear hd
    simp only [List.take_zero] at hin
    have hz : geZ [] l[i] = 0 := rfl
    rw [hz] at hin
    have hq := S30 l.length (by rw [has_i64]; omega)
    simp [h1]
    simp only [Int.ofNat_zero] at hin
    rw [hin, J38_8_eq]
    by_cases h2 : quorumZ l.length ≤ geZ l l[i]
    · cases f with
      | false => simp [callI_eq, hq, h2, ha, encI, ihJ]
      | true =>
        by_cases h3 : b < l[i]
        · simp [callI_eq, hq, h2, h3, ha, encI, ihJ]
        · simp [callI_eq, hq, h2, h3, ha, encI, ihJ]
    · simp [callI_eq, hq, h2, ihJ]
theorem S38 (l : List Int) (hl : l.length ≤ 9223372036854775807) : ansI E 38 [tIs l] = some (.ret (mkI .i64 (refR l l 0 false))) := by
  rw [ansI_none rfl, C38]
  exact J38 l hl [] l.length 0 0 false (by omega)
theorem S26 : ansI E 26 [] = some (.ret (mkB true)) := by
  rw [ansI_none rfl, C26]
  have h1 := S29 5 (by rw [has_i64]; omega)
  have h2 := S33 7 1 3 (by rw [has_i64]; omega) (by rw [has_i64]; omega)
  have h3 := S35 [⟨0, 2, 5⟩, ⟨1, 3, 1⟩, ⟨2, 3, 4⟩] (by simp)
  have h4 := S37 [5, 9, 7] (by decide)
  have e1 : primaryZ 7 3 = 1 := by decide
  have e2 : quorumZ 5 = 3 := by decide
  have e3 : waitZ 2 = 12 := by decide
  have e4 : nextZ 7 1 3 = 10 := by decide
  have e5 : bestZ [⟨0, 2, 5⟩, ⟨1, 3, 1⟩, ⟨2, 3, 4⟩] = 2 := by decide
  have e6 : reachedZ [5, 9, 7] = 7 := by
    have : ([5, 9, 7] : List Int).mergeSort (fun x y => decide (x ≤ y)) = [5, 7, 9] := by
      simp [List.mergeSort, List.MergeSort.Internal.splitInTwo]
    simp only [reachedZ, this]
    rfl
  rw [e5] at h3
  rw [e6] at h4
  simp only [tVs, tIs, List.map_cons, List.map_nil, encV, encI] at h3 h4
  simp [callI_eq, S27, h1, S31, h2, e1, e2, e3, e4, afill, afillS, updC, frzE, frzC, isOref, h3, h4]
end Go.Ab

/- The laws of 'view', run: who leads; which view comes next; two sets that are most. -/
namespace Go.Ab
open Go

/-- What is answered true is true, whatever memory it leaves. -/
theorem true_of {x : Option Out} {b : Bool} (h : x.bind frz0 = some (.ret (mkB b))) : ∃ m', x = some (.ret (mkB b), m') := by
  cases x with
  | none => cases h
  | some r =>
    obtain ⟨r1, m'⟩ := r
    cases r1 with
    | pan v => simp at h
    | ret v =>
      refine ⟨m', ?_⟩
      simp only [Option.bind_some, frz0_ret, Option.bind_eq_some_iff] at h
      obtain ⟨w, hw, h2⟩ := h
      cases h2
      cases v with
      | t xs => simp only [frzT_t, Option.bind_eq_some_iff] at hw; obtain ⟨y, _, hy⟩ := hw; cases hy
      | bad => cases hw
      | e te =>
        simp only [frzT_e, Option.bind_eq_some_iff] at hw
        obtain ⟨y, hy, h3⟩ := hw
        cases h3
        cases te with
        | a cs => simp only [frzE_a, Option.bind_eq_some_iff] at hy; obtain ⟨z, _, hz⟩ := hy; cases hz
        | c x =>
          simp only [frzE] at hy
          split at hy
          · rename_i z hz
            cases hy
            cases x with
            | p q => simp at hz; rw [hz]
            | tsl es => simp at hz
            | oref a b c d =>
              simp only [cond_false, frzC] at hz
              split at hz
              · rename_i o _
                rcases hc : (decide (0 ≤ a) && decide (c + d ≤ o.es.length)) with _ | _
                · rw [hc] at hz; cases hz
                · rw [hc, cond_true] at hz
                  split at hz <;> cases hz
              · cases hz
            | toref a b c d =>
              simp only [cond_false, frzC] at hz
              split at hz
              · rename_i o _
                rcases hc : (decide (0 ≤ a) && decide (c + d ≤ o.es.length)) with _ | _
                · rw [hc] at hz; cases hz
                · rw [hc, cond_true] at hz
                  split at hz <;> cases hz
              · cases hz
            | ref => cases hz
            | ip => cases hz
            | clo => cases hz
          · cases hy
theorem L6 (v n id : Int) (hn : Has .i64 n) : ∃ m', ex E (entry E.P 6 [tI v, tI n, tI id] []) = some (.ret (mkB true), m') := by
  rw [C6]
  simp [callI_eq, S26, S27, S28, S29 n hn, S30 n hn, S31, S32]

/-! ### The next view -/
/-- The least number above v that id leads. -/
def upZ (v id n : Int) : Int := if v - v % n + id ≤ v then v - v % n + id + n else v - v % n + id
theorem upZ_bd {v id n : Int} (_hv : 0 ≤ v) (h0 : 0 ≤ id) (h1 : id < n) : v < upZ v id n ∧ upZ v id n ≤ v + n ∧ upZ v id n % n = id := by
  have h6 := Int.emod_nonneg v (show n ≠ 0 by omega)
  have h7 := Int.emod_lt_of_pos v (show 0 < n by omega)
  have hd := Int.mul_ediv_add_emod v n
  have e : v - v % n + id = id + n * (v / n) := by omega
  have e' : v - v % n + id + n = id + n * (v / n + 1) := by rw [Int.mul_add]; omega
  have hm : id % n = id := Int.emod_eq_of_lt h0 h1
  unfold upZ
  split
  · refine ⟨by omega, by omega, ?_⟩
    rw [e', Int.add_mul_emod_self_left, hm]
  · refine ⟨by omega, by omega, ?_⟩
    rw [e, Int.add_mul_emod_self_left, hm]
theorem upZ_least {v id n w : Int} (_hv : 0 ≤ v) (h0 : 0 ≤ id) (h1 : id < n) (hw : v < w) (hm : w % n = id) : upZ v id n ≤ w := by
  have h6 := Int.emod_nonneg v (show n ≠ 0 by omega)
  have h7 := Int.emod_lt_of_pos v (show 0 < n by omega)
  have hd := Int.mul_ediv_add_emod v n
  have hd' := Int.mul_ediv_add_emod w n
  rw [hm] at hd'
  unfold upZ
  generalize v / n = q at *
  generalize w / n = p at *
  generalize v % n = r at *
  have hpq : q ≤ p := by
    rcases Int.le_total q p with h | h
    · exact h
    · by_cases hh : q = p
      · omega
      · exfalso
        have := Int.mul_le_mul_of_nonneg_left (show p ≤ q - 1 by omega) (show 0 ≤ n by omega)
        rw [Int.mul_sub] at this
        omega
  by_cases hh : q = p
  · subst hh
    split <;> omega
  · have := Int.mul_le_mul_of_nonneg_left (show q + 1 ≤ p by omega) (show 0 ≤ n by omega)
    rw [Int.mul_add] at this
    split <;> omega
theorem nextZ_eq (v id n : Int) (h : 0 ≤ v ∧ v ≤ 1099511627776 ∧ 0 ≤ id ∧ id < n) : nextZ v id n = if 1099511627776 < upZ v id n then -1 else upZ v id n := by
  obtain ⟨h1, h2, h3⟩ := upZ_bd h.1 h.2.2.1 h.2.2.2
  unfold nextZ
  rw [if_neg (by omega), if_neg (by omega), if_neg (by omega), if_neg (by omega)]
  simp only
  unfold upZ at *
  repeat' split
  all_goals omega
theorem L7 (v id n : Int) (hi : Has .i64 id) (hn : Has .i64 n) : ∃ m', ex E (entry E.P 7 [tI v, tI id, tI n] []) = some (.ret (mkB true), m') := by
  rw [C7]
  have hS := S33 v id n hn hi
  rw [has_i64] at hi hn
  simp only [callI_eq, mapO_nil, Option.bind_some, S26, anyOref_nil, Bool.false_and, cond_false, asB_B, anot_B, Bool.not_true, mapO_cons, frzE_c, hS]
  simp
  by_cases h1 : v < 0
  · simp [h1, nextZ]
  by_cases h2 : 1099511627776 < v
  · simp [h1, h2, nextZ]
  by_cases h3 : id < 0
  · simp [h1, h2, h3, nextZ]
  by_cases h4 : n ≤ id
  · simp [h1, h2, h3, h4, nextZ]
  have hup := upZ_bd (v := v) (id := id) (n := n) (by omega) (by omega) (by omega)
  have hle := fun w => upZ_least (v := v) (id := id) (n := n) (w := w) (by omega) (by omega) (by omega)
  rw [nextZ_eq v id n (by omega)]
  generalize upZ v id n = u at *
  have hno : ∀ many, many ≤ u - v - 1 → ∀ i, 1 ≤ i → i ≤ many → primaryZ (v + i) n ≠ id := by
    intro many hm i hi1 hi2 hp
    unfold primaryZ at hp
    rw [if_neg (by omega), if_neg (by omega), Int.tmod_eq_emod_of_nonneg (by omega)] at hp
    have := hle (v + i) (by omega) hp
    omega
  by_cases h5 : 1099511627776 < u
  · have e1 : IntKind.i64.wrap (1099511627776 - v) = 1099511627776 - v := in_i64 (by omega)
    have h6 : 1099511627776 - v < n := by omega
    have hS34 := S34 v (1099511627776 - v) id n (by omega) (hno _ (by omega))
    simp [h1, h2, h3, h4, h5, e1, h6, hS34]
  · have h6 : ¬ (u = -1) := by omega
    have e1 : IntKind.i64.wrap (u - v) = u - v := in_i64 (by omega)
    have e2 : IntKind.i64.wrap (u - v - 1) = u - v - 1 := in_i64 (by omega)
    have h7 : v < u := by omega
    have h8 : u ≤ 1099511627776 := by omega
    have h9 : u - v ≤ n := by omega
    have hp : primaryZ u n = id := by
      unfold primaryZ
      rw [if_neg (by omega), if_neg (by omega), Int.tmod_eq_emod_of_nonneg (by omega)]
      exact hup.2.2
    have hmin : aminI .i64 [mkI .i64 (u - v - 1), mkI .i64 100] = some (if 100 < u - v - 1 then 100 else u - v - 1) := by
      simp [aminI, aminGo]
    have hS34 := S34 v (if 100 < u - v - 1 then 100 else u - v - 1) id n (by omega) (hno _ (by split <;> omega))
    simp [h1, h2, h3, h4, h5, h6, e1, e2, h7, h8, h9, S27, hp, hmin, hS34]

/-! ### Two sets that are most -/
abbrev encB (b : Bool) : List PV := [.c (.bool b)]
abbrev tBs (l : List Bool) : TE := .c (.p (.sl (l.map encB)))
def cnt (l : List Bool) : Nat := l.countP id
def both (a b : List Bool) : Nat := (a.zip b).countP fun p => p.1 && p.2
theorem both_ge : ∀ (a b : List Bool), a.length = b.length → cnt a + cnt b ≤ a.length + both a b
  | [], [], _ => by simp [cnt, both]
  | x :: a, y :: b, h => by
    have := both_ge a b (by simpa using h)
    simp only [cnt, both, List.zip_cons_cons, List.countP_cons, List.length_cons] at this ⊢
    cases x <;> cases y <;> simp <;> omega
theorem cnt_take {l : List Bool} {i : Nat} (h : i < l.length) : cnt (l.take (i + 1)) = cnt (l.take i) + (if l[i] = true then 1 else 0) := by
  unfold cnt
  rw [List.take_succ_eq_append_getElem h, List.countP_append]
  cases l[i] <;> simp
theorem both_take {a b : List Bool} {i : Nat} (h : i < a.length) (h' : i < b.length) : both (a.take (i + 1)) (b.take (i + 1)) = both (a.take i) (b.take i) + (if a[i] = true ∧ b[i] = true then 1 else 0) := by
  unfold both
  rw [List.take_succ_eq_append_getElem h, List.take_succ_eq_append_getElem h', List.zip_append (by simp; omega), List.countP_append]
  cases a[i] <;> cases b[i] <;> simp
theorem J10 (a b : List Bool) (ha0 : 0 < a.length) (hl : a.length ≤ 4611686018427387900) (hab : b.length = a.length) (m : Mem) : ∀ (k i : Nat), i + k = a.length →
    (J10_10 (tBs a) (tBs b) a.length (cnt (a.take i) : Nat) (cnt (b.take i) : Nat) (both (a.take i) (b.take i) : Nat) i m).bind frz0 = some (.ret (mkB true))
  | 0, i, h => by
    obtain rfl : i = a.length := by omega
    rw [J10_10_eq]
    have hq := S29 a.length (by rw [has_i64]; omega)
    have hb := both_ge a b hab.symm
    have e0 : List.take a.length a = a := List.take_length
    have e0' : List.take a.length b = b := by rw [← hab]; exact List.take_length
    rw [e0, e0']
    have hqz : (a.length : Int) < 2 * quorumZ a.length ∧ 2 * (quorumZ a.length - 1) ≤ a.length ∧ 0 ≤ quorumZ a.length ∧ quorumZ a.length ≤ 4611686018427387901 := by
      unfold quorumZ
      split <;> omega
    generalize quorumZ a.length = q at *
    have e1 : IntKind.i64.wrap (2 * q) = 2 * q := in_i64 (by omega)
    have e2 : IntKind.i64.wrap (q - 1) = q - 1 := in_i64 (by omega)
    have e3 : IntKind.i64.wrap (2 * (q - 1)) = 2 * (q - 1) := in_i64 (by omega)
    simp [callI_eq, hq, e1, e2, e3, hqz.1, hqz.2.1]
    intro h1 h2
    omega
  | k + 1, i, h => by
    have hlt : i < a.length := by omega
    have hlt' : i < b.length := by omega
    have h1 : ((i : Int) < (a.length : Int)) := by omega
    have ha := fun m => aidx_map (enc := encB) (k := 1) (m := m) (List.getElem?_eq_getElem hlt) rfl
    have hb := fun m => aidx_map (enc := encB) (k := 1) (m := m) (List.getElem?_eq_getElem hlt') rfl
    have ih := J10 a b ha0 hl hab m k (i + 1) (by omega)
    rw [cnt_take hlt, cnt_take hlt', both_take hlt hlt'] at ih
    have c1 : cnt (a.take i) ≤ i := by have := List.countP_le_length (p := id) (l := a.take i); simp at this; unfold cnt; omega
    have c2 : cnt (b.take i) ≤ i := by have := List.countP_le_length (p := id) (l := b.take i); simp at this; unfold cnt; omega
    have c3 : both (a.take i) (b.take i) ≤ i := by have := List.countP_le_length (p := fun p : Bool × Bool => p.1 && p.2) (l := (a.take i).zip (b.take i)); simp at this; unfold both; omega
    have e1 : IntKind.i64.wrap ((i : Int) + 1) = (i : Int) + 1 := in_i64 (by omega)
    generalize cnt (a.take i) = x at *
    generalize cnt (b.take i) = y at *
    generalize both (a.take i) (b.take i) = z at *
    have e2 : IntKind.i64.wrap ((x : Int) + 1) = (x : Int) + 1 := in_i64 (by omega)
    have e3 : IntKind.i64.wrap ((y : Int) + 1) = (y : Int) + 1 := in_i64 (by omega)
    have e4 : IntKind.i64.wrap ((z : Int) + 1) = (z : Int) + 1 := in_i64 (by omega)
    rw [J10_10_eq]
    cases hx : a[i] <;> cases hy : b[i] <;> simp [hx, hy] at ha hb ih <;> simp [h1, ha, hb, J10_14_eq, J10_16_eq, J10_11_eq, e1, e2, e3, e4] <;> exact ih
theorem L10 (a b : List Bool) (hl : a.length ≤ 4611686018427387900) : ∃ m', ex E (entry E.P 10 [tBs a, tBs b] []) = some (.ret (mkB true), m') := by
  refine true_of ?_
  rw [C10]
  have hq := S29 0 (by rw [has_i64]; omega)
  have hqz : quorumZ 0 = 0 := by decide
  by_cases h1 : a.length = 0
  · have : a = [] := List.eq_nil_of_length_eq_zero h1
    subst this
    simp [callI_eq, S26, hq, hqz]
  · have h1' : ¬ a = [] := fun h => h1 (by simp [h])
    by_cases h2 : b.length = a.length
    · have h3 : ((b.length : Int) = a.length) := by omega
      have := J10 a b (by omega) hl h2 [] a.length 0 (by omega)
      simp [cnt, both] at this
      simp [callI_eq, S26, h1', h3]
      simpa using this
    · have h3 : ¬ ((b.length : Int) = a.length) := by omega
      simp [callI_eq, S26, hq, hqz, h1', h3]
end Go.Ab

/- The best vote: plain facts. -/
namespace Go.Ab
open Go

theorem btr_irr (a : Vote) : ¬ btr a a := by unfold btr; omega
theorem btr_trans {a b c : Vote} (h : ¬ btr a b) (h' : ¬ btr b c) : ¬ btr a c := by unfold btr at *; omega
theorem btr_tot {a b : Vote} (h : ¬ btr a b) (h' : ¬ btr b a) : a = b := by
  unfold btr at *
  cases a
  cases b
  simp at h h' ⊢
  omega
/-- None is better. -/
def isBest (l : List Vote) (v : Vote) : Prop := v ∈ l ∧ ∀ x ∈ l, ¬ btr x v
theorem isBest_eq {l l' : List Vote} {v v' : Vote} (h : isBest l v) (h' : isBest l' v') (hl : ∀ x, x ∈ l ↔ x ∈ l') : v = v' :=
  btr_tot (h'.2 v ((hl v).1 h.1)) (h.2 v' ((hl v').2 h'.1))
theorem minV_best : ∀ (l : List Vote) (c : Vote), isBest (c :: l) (minV c l)
  | [], c => ⟨by simp [minV], fun x hx => by simp at hx; subst hx; exact btr_irr _⟩
  | v :: l, c => by
    have hm : minV c (v :: l) = minV (if betterZ v c < 0 then v else c) l := rfl
    rw [hm]
    by_cases h : betterZ v c < 0
    · rw [if_pos h]
      rw [betterZ_neg] at h
      obtain ⟨h1, h2⟩ := minV_best l v
      refine ⟨List.mem_cons_of_mem _ h1, fun x hx => ?_⟩
      rcases List.mem_cons.1 hx with rfl | hx
      · refine btr_trans (b := v) ?_ (h2 v (by simp))
        unfold btr at *
        omega
      · exact h2 x hx
    · rw [if_neg h]
      rw [betterZ_neg] at h
      obtain ⟨h1, h2⟩ := minV_best l c
      refine ⟨?_, fun x hx => ?_⟩
      · rcases List.mem_cons.1 h1 with h1 | h1
        · rw [h1]; simp
        · simp [h1]
      · rcases List.mem_cons.1 hx with rfl | hx
        · exact h2 _ (by simp)
        · rcases List.mem_cons.1 hx with rfl | hx
          · exact btr_trans h (h2 c (by simp))
          · exact h2 x (by simp [hx])
theorem firstIdx_spec {v : Vote} : ∀ {l : List Vote} {i r : Nat}, l[r]? = some v → (∀ x, x < r → l[x]? ≠ some v) → firstIdx v l i = ((i + r : Nat) : Int)
  | [], i, r, h, _ => by simp at h
  | x :: l, i, 0, h, _ => by
    cases h
    simp [firstIdx]
  | x :: l, i, r + 1, h, h' => by
    have hx : ¬ (v = x) := fun he => h' 0 (by omega) (by simp [he])
    rw [firstIdx, if_neg hx, firstIdx_spec (r := r) (by simpa using h) fun y hy => by simpa using h' (y + 1) (by omega)]
    congr 1
    omega
/-- The place of the best one, the first of its like. -/
def isIdx (l : List Vote) (r : Nat) : Prop := ∃ v, l[r]? = some v ∧ isBest l v ∧ ∀ x, x < r → l[x]? ≠ some v
theorem isIdx_eq {l : List Vote} {r r' : Nat} (h : isIdx l r) (h' : isIdx l r') : r = r' := by
  obtain ⟨v, h1, h2, h3⟩ := h
  obtain ⟨v', h4, h5, h6⟩ := h'
  obtain rfl := isBest_eq h2 h5 fun _ => Iff.rfl
  rcases Nat.lt_trichotomy r r' with h | h | h
  · exact absurd h1 (h6 r h)
  · exact h
  · exact absurd h4 (h3 r' h)
theorem first_of {l : List Vote} {v : Vote} (h : v ∈ l) : ∃ r : Nat, l[r]? = some v ∧ ∀ x, x < r → l[x]? ≠ some v := by
  induction l with
  | nil => cases h
  | cons x l ih =>
    by_cases hx : x = v
    · exact ⟨0, by simp [hx], fun y hy => by omega⟩
    · obtain ⟨r, h1, h2⟩ := ih (by rcases List.mem_cons.1 h with h | h; exact absurd h.symm hx; exact h)
      refine ⟨r + 1, by simpa using h1, fun y hy => ?_⟩
      cases y with
      | zero => simp [hx]
      | succ y => simpa using h2 y (by omega)
theorem bestZ_idx {l : List Vote} (h : l ≠ []) : ∃ r, bestZ l = ((r : Nat) : Int) ∧ isIdx l r := by
  cases l with
  | nil => exact absurd rfl h
  | cons v l =>
    have hb := minV_best l v
    obtain ⟨r, h1, h2⟩ := first_of hb.1
    refine ⟨r, ?_, _, h1, hb, h2⟩
    rw [bestZ, firstIdx_spec h1 h2, Nat.zero_add]
theorem refGo_idx {l : List Vote} : ∀ (k i j : Nat), i + k = l.length → j < i → (∃ v, l[j]? = some v ∧ (∀ (x : Nat) u, x < i → l[x]? = some u → ¬ btr u v) ∧ ∀ x, x < j → l[x]? ≠ some v) → ∃ r, refGo l k i j = ((r : Nat) : Int) ∧ isIdx l r
  | 0, i, j, h, hj, ⟨v, h1, h2, h3⟩ => ⟨j, rfl, v, h1, ⟨List.mem_of_getElem? h1, fun x hx => by
      obtain ⟨q, hq⟩ := List.getElem?_of_mem hx
      exact h2 q x (by have := (List.getElem?_eq_some_iff.1 hq).1; omega) hq⟩, h3⟩
  | k + 1, i, j, h, hj, ⟨v, h1, h2, h3⟩ => by
    have hlt : i < l.length := by omega
    have hi : l[i]? = some l[i] := List.getElem?_eq_getElem hlt
    have h0 : ¬ ((j : Int) < 0) := by omega
    have hr : refGo l (k + 1) i j = refGo l k (i + 1) (if btr l[i] v then (i : Int) else j) := by
      simp [refGo, hi, h1, h0]
    rw [hr]
    by_cases hb : btr l[i] v
    · rw [if_pos hb]
      refine refGo_idx k (i + 1) i (by omega) (by omega) ⟨l[i], hi, fun x u hx hu => ?_, fun x hx he => ?_⟩
      · by_cases hxi : x = i
        · subst hxi
          rw [hi] at hu
          cases hu
          exact btr_irr _
        · refine btr_trans (b := v) (h2 x u (by omega) hu) ?_
          unfold btr at *
          omega
      · have := h2 x l[i] hx he
        exact this hb
    · rw [if_neg hb]
      refine refGo_idx k (i + 1) j (by omega) (by omega) ⟨v, h1, fun x u hx hu => ?_, h3⟩
      by_cases hxi : x = i
      · subst hxi
        rw [hi] at hu
        cases hu
        exact hb
      · exact h2 x u (by omega) hu
theorem refGo_best (l : List Vote) : refGo l l.length 0 (-1) = bestZ l := by
  cases l with
  | nil => rfl
  | cons v l =>
    obtain ⟨r, h1, h2⟩ := bestZ_idx (l := v :: l) (by simp)
    have h3 : refGo (v :: l) (l.length + 1) 0 (-1) = refGo (v :: l) l.length 1 (0 : Nat) := by simp [refGo]
    obtain ⟨r', h4, h5⟩ := refGo_idx (l := v :: l) l.length 1 0 (by simp; omega) (by omega) ⟨v, rfl, fun x u hx hu => by
      obtain rfl : x = 0 := by omega
      cases hu
      exact btr_irr _, fun x hx => by omega⟩
    rw [List.length_cons, h3, h4, h1, isIdx_eq h2 h5]
/-- The votes, turned by so many. -/
def rotV {α : Type} [Inhabited α] (l : List α) (t : Nat) : List α := (List.range l.length).map fun i => l.getD ((i + t) % l.length) default
theorem rotV_mem {α : Type} [Inhabited α] (l : List α) (t : Nat) (x : α) : x ∈ rotV l t ↔ x ∈ l := by
  unfold rotV
  simp only [List.mem_map, List.mem_range]
  constructor
  · rintro ⟨i, hi, rfl⟩
    have : (i + t) % l.length < l.length := Nat.mod_lt _ (by omega)
    rw [List.getD_eq_getElem?_getD, List.getElem?_eq_getElem this]
    exact List.getElem_mem _
  · intro h
    obtain ⟨q, hq⟩ := List.getElem?_of_mem h
    have hlt := (List.getElem?_eq_some_iff.1 hq).1
    have hm : t % l.length < l.length := Nat.mod_lt _ (by omega)
    refine ⟨(q + (l.length - t % l.length)) % l.length, Nat.mod_lt _ (by omega), ?_⟩
    have : ((q + (l.length - t % l.length)) % l.length + t) % l.length = q := by
      rw [Nat.add_mod, Nat.mod_mod, ← Nat.add_mod]
      have e : q + (l.length - t % l.length) + t = q + l.length * (t / l.length + 1) := by
        have := Nat.div_add_mod t l.length
        rw [Nat.mul_add]
        omega
      rw [e, Nat.add_mul_mod_self_left, Nat.mod_eq_of_lt hlt]
    rw [this, List.getD_eq_getElem?_getD, hq]
    rfl
theorem rotV_take_succ {α : Type} [Inhabited α] (l : List α) (t i : Nat) (h : i < l.length) : (rotV l t).take (i + 1) = (rotV l t).take i ++ [l.getD ((i + t) % l.length) default] := by
  rw [List.take_succ_eq_append_getElem (by simp [rotV]; exact h)]
  simp [rotV]
@[simp] theorem rotV_length {α : Type} [Inhabited α] (l : List α) (t : Nat) : (rotV l t).length = l.length := by simp [rotV]
end Go.Ab

/- The laws of 'view', run: the best vote. -/
namespace Go.Ab
open Go

instance : Inhabited Vote := ⟨⟨0, 0, 0⟩⟩
@[simp] theorem elems_sl (es : List (List PV)) (m : Mem) : elems (.e (.c (.p (.sl es)))) m = some (up es) := rfl
theorem allLen_up {α : Type} {enc : α → List PV} {k : Nat} (h : ∀ x, (enc x).length = k) (l : List α) : allLen k (up (l.map enc)) = true := by
  refine allLen_of fun e he => ?_
  simp only [up, List.map_map, List.mem_map] at he
  obtain ⟨x, _, rfl⟩ := he
  simp [h]
theorem up_get {α : Type} {enc : α → List PV} {l : List α} {i : Nat} {v : α} (h : l[i]? = some v) : (up (l.map enc))[i]? = some ((enc v).map .p) := by simp [up, h]
theorem up_snoc {α : Type} {enc : α → List PV} (l : List α) (v : α) : up ((l ++ [v]).map enc) = up (l.map enc) ++ [(enc v).map .p] := by simp [up]
/-- So many places further on. -/
def turnN (turn : Int) (n : Nat) : Nat := ((turn % 18446744073709551616) % n).toNat
theorem turn_ok (turn : Int) (n : Nat) (h : 0 < n) (hn : n ≤ 4611686018427387904) : turnN turn n < n ∧ IntKind.u64.wrap n = n ∧ (IntKind.u64.wrap turn).tmod n = turnN turn n ∧ IntKind.i64.wrap (turnN turn n) = turnN turn n ∧
    ∀ i : Nat, i < n → IntKind.i64.wrap ((i : Int) + turnN turn n) = (i : Int) + turnN turn n ∧ ((i : Int) + turnN turn n).tmod n = (((i + turnN turn n) % n : Nat) : Int) := by
  have h0 := Int.emod_nonneg turn (show (18446744073709551616 : Int) ≠ 0 by omega)
  have h1 := Int.emod_nonneg (turn % 18446744073709551616) (show (n : Int) ≠ 0 by omega)
  have h2 := Int.emod_lt_of_pos (turn % 18446744073709551616) (show 0 < (n : Int) by omega)
  have e : ((turnN turn n : Nat) : Int) = (turn % 18446744073709551616) % n := by unfold turnN; omega
  have hlt : turnN turn n < n := by omega
  refine ⟨hlt, in_u64 (by omega), ?_, in_i64 (by omega), fun i hi => ⟨in_i64 (by omega), ?_⟩⟩
  · rw [wrap_u64, Int.tmod_eq_emod_of_nonneg h0, e]
  · rw [Int.tmod_eq_emod_of_nonneg (by omega)]
    push_cast
    rfl
theorem J8 (l : List Vote) (hl : l.length * 24 ≤ 140737488351232) (turn : Int) (own : CV) (bi : Nat) (hbi : isIdx l bi) : ∀ (k i : Nat) (m : Mem) (x : CV), i + k = l.length → LS 55 3 m own (up (l.map encV)) →
    LS 55 3 m x (up (((rotV l (turnN turn l.length)).take i).map encV)) → idOf (.e (.c own)) ≠ idOf (.e (.c x)) → (J8_12 (tVs l) turn (.c own) bi l.length (.c x) i m).bind frz0 = some (.ret (mkB true))
  | 0, i, m, x, h, ho, hx, _ => by
    obtain rfl : i = l.length := by omega
    have hr : (rotV l (turnN turn l.length)).take l.length = rotV l (turnN turn l.length) := List.take_of_length_le (by simp)
    rw [hr] at hx
    have hrl : (rotV l (turnN turn l.length)).length = l.length := rotV_length ..
    have hrm := rotV_mem l (turnN turn l.length)
    generalize rotV l (turnN turn l.length) = r at *
    obtain ⟨v, hv1, hv2, _⟩ := hbi
    have hne : r ≠ [] := by
      intro hh
      have := (List.getElem?_eq_some_iff.1 hv1).1
      rw [hh] at hrl
      simp at hrl
      omega
    obtain ⟨q, hq, v', hv3, hv4, _⟩ := bestZ_idx hne
    obtain rfl := isBest_eq hv2 hv4 fun x => (hrm x).symm
    have hS := S35 r (by omega)
    rw [hq] at hS
    have hb := fun m => aidx_map (enc := encV) (k := 3) (m := m) hv1 rfl
    obtain ⟨a, ha1, _, ha2⟩ := hx.load (up_get (enc := encV) hv3)
    have ha3 := (ha2 0 3 true).2
    rw [J8_12_eq]
    simp [callI_eq, hx.frz, hS, ha1, ha3, encV, pick, hb, acmp, aeq, cellsEq, oneEq]
  | k + 1, i, m, x, h, ho, hx, hne => by
    have hlt : i < l.length := by omega
    have h1 : ((i : Int) < (l.length : Int)) := by omega
    obtain ⟨t1, t2, t3, t4, t5⟩ := turn_ok turn l.length (by omega) (by omega)
    obtain ⟨t6, t7⟩ := t5 i hlt
    have hv : l[i]? = some l[i] := List.getElem?_eq_getElem hlt
    have hrot := rotV_take_succ l (turnN turn l.length) i hlt
    have hmod : (i + turnN turn l.length) % l.length < l.length := Nat.mod_lt _ (by omega)
    have hw : l[(i + turnN turn l.length) % l.length]? = some (l.getD ((i + turnN turn l.length) % l.length) default) := by
      rw [List.getD_eq_getElem?_getD, List.getElem?_eq_getElem hmod]
      rfl
    have hz : ¬ l = [] := fun hh => by simp [hh] at hlt
    generalize l.getD ((i + turnN turn l.length) % l.length) default = w at *
    generalize (i + turnN turn l.length) % l.length = p at *
    have ha := fun m => aidx_map (enc := encV) (k := 3) (m := m) hv rfl
    have hb := fun m => aidx_map (enc := encV) (k := 3) (m := m) hw rfl
    obtain ⟨a, ha1, _, ha2⟩ := ho.load (up_get (enc := encV) hv)
    have ha3 := (ha2 0 3 true).2
    have e1 : IntKind.i64.wrap ((i : Int) + 1) = (i : Int) + 1 := in_i64 (by omega)
    -- the new vote's own place
    have hm1 : ∀ id, id < m.length → (m ++ [⟨0, 3, 55, true, [(encV w).map .p]⟩])[id]? = m[id]? := fun id hid => List.getElem?_append_left hid
    have ho1 := ho.keep (m' := m ++ [⟨0, 3, 55, true, [(encV w).map .p]⟩]) fun id hid => hm1 id (ho.lt id hid)
    have hx1 := hx.keep (m' := m ++ [⟨0, 3, 55, true, [(encV w).map .p]⟩]) fun id hid => hm1 id (hx.lt id hid)
    have hel : elems (.e (.c (.oref m.length 0 0 1))) (m ++ [⟨0, 3, 55, true, [(encV w).map .p]⟩]) = some [(encV w).map .p] := by
      simp [elems, at?_app]
    have hlen : (up (((rotV l (turnN turn l.length)).take i).map encV)).length ≤ i := by simp; omega
    obtain ⟨x', m', hap, hx2, hle, hkeep, hid⟩ := hx1.append (bytes := 24) hel (by simp [allLen, encV]) (by unfold roomB; simp at hlen ⊢; omega)
    have ho2 := ho1.keep (m' := m') fun id hid' => hkeep id (ho1.lt id hid') (by rw [hid']; exact hne)
    have hne2 : idOf (.e (.c own)) ≠ idOf (.e (.c x')) := by
      rcases hid with hid | hid
      · rw [hid]; exact hne
      · rw [hid]
        intro hh
        have := ho.lt (m ++ [(⟨0, 3, 55, true, [(encV w).map .p]⟩ : AObj)]).length hh.symm
        simp at this
        omega
    rw [← up_snoc, ← hrot] at hx2
    have ih := J8 l hl turn own bi hbi k (i + 1) m' x' (by omega) ho2 hx2 hne2
    push_cast at ih
    rw [J8_12_eq]
    simp only [encV, List.map_cons, List.map_nil] at hap
    simp [h1, ha1, ha3, encV, pick, ha, acmp, aeq, cellsEq, oneEq, t2, t3, t4, t6, t7, hb, afillS, hap, e1]
    exact ⟨hz, ih⟩
theorem L8 (l : List Vote) (hl : l.length * 24 ≤ 140737488351232) (turn : Int) : ∃ m', ex E (entry E.P 8 [tVs l, tI turn] []) = some (.ret (mkB true), m') := by
  refine true_of ?_
  rw [C8]
  have h0 : LS 55 3 [⟨0, 3, 55, true, []⟩] (.oref 0 0 0 0) [] := .inr ⟨0, 0, ⟨0, 3, 55, true, []⟩, rfl, rfl, rfl, rfl, rfl⟩
  obtain ⟨own, m', hap, ho, hle, _, hid⟩ := h0.append (bytes := 24) (elems_sl (l.map encV) _) (allLen_up (enc := encV) (k := 3) (fun _ => rfl) l) (by unfold roomB; simp; omega)
  rw [List.nil_append] at ho
  have hS1 := S35 l (by omega)
  have hS2 := S36 l (by omega)
  rw [refGo_best] at hS2
  have hfr := ho.frz false
  simp [callI_eq, S26, afillS, hap, hfr, hS1, hS2]
  by_cases hne : l = []
  · subst hne
    simp [bestZ]
  rw [if_neg hne]
  obtain ⟨r, h1, h2⟩ := bestZ_idx hne
  rw [h1]
  have := J8 l hl turn own r h2 l.length 0 m' (.tsl []) (by omega) ho (by simpa using LS.nil) (by
    rcases hid with hid | hid <;> rw [hid] <;> simp)
  simpa using this
end Go.Ab

/- What most have reached: plain facts. -/
namespace Go.Ab
open Go

def gtZ (l : List Int) (x : Int) : Nat := l.countP fun y => decide (x < y)
/-- Most have reached it, and no more. -/
def isReach (l : List Int) (x : Int) : Prop := l.length / 2 + 1 ≤ geZ l x ∧ gtZ l x < l.length / 2 + 1
theorem ge_gt (l : List Int) {x y : Int} (h : x < y) : geZ l y ≤ gtZ l x := by
  unfold geZ gtZ
  refine List.countP_mono_left fun z _ hz => ?_
  simp at hz ⊢
  omega
theorem isReach_eq {l l' : List Int} (hp : l.Perm l') {x y : Int} (h : isReach l x) (h' : isReach l' y) : x = y := by
  have e1 : geZ l' y = geZ l y := (hp.countP_eq _).symm
  have e2 : gtZ l' y = gtZ l y := (hp.countP_eq _).symm
  have e3 := hp.length_eq
  unfold isReach at *
  rw [e1, e2, ← e3] at h'
  rcases Int.lt_trichotomy x y with hh | hh | hh
  · have := ge_gt l hh; omega
  · exact hh
  · have := ge_gt l hh; omega
theorem reachedZ_is {l : List Int} (h : l ≠ []) : isReach l (reachedZ l) ∧ reachedZ l ∈ l := by
  have hp := List.mergeSort_perm l (fun x y => decide (x ≤ y))
  have hs := List.pairwise_mergeSort (le := fun x y : Int => decide (x ≤ y)) (by intro a b c; simp; omega) (by intro a b; simp; omega) l
  have hl := hp.length_eq
  have h0 : 0 < l.length := List.length_pos_iff.2 h
  unfold reachedZ
  generalize l.mergeSort (fun x y => decide (x ≤ y)) = s at *
  have hlt : l.length - (l.length / 2 + 1) < s.length := by omega
  rw [List.getD_eq_getElem?_getD, List.getElem?_eq_getElem hlt, Option.getD_some]
  generalize hP : l.length - (l.length / 2 + 1) = p at *
  have e1 : geZ l s[p] = geZ s s[p] := (hp.countP_eq _).symm
  have e2 : gtZ l s[p] = gtZ s s[p] := (hp.countP_eq _).symm
  have hd : s = s.take p ++ s.drop p := (List.take_append_drop p s).symm
  have hd' : s = s.take (p + 1) ++ s.drop (p + 1) := (List.take_append_drop (p + 1) s).symm
  have hget := List.pairwise_iff_getElem.1 hs
  refine ⟨⟨?_, ?_⟩, (hp.mem_iff).1 (List.getElem_mem _)⟩
  · rw [e1]
    have h1 : (s.drop p).countP (fun y => decide (s[p] ≤ y)) = (s.drop p).length := by
      rw [List.countP_eq_length]
      intro y hy
      obtain ⟨q, hq⟩ := List.getElem?_of_mem hy
      rw [List.getElem?_drop] at hq
      obtain ⟨hq1, hq2⟩ := List.getElem?_eq_some_iff.1 hq
      cases q with
      | zero => simp at hq2; simp [hq2]
      | succ q =>
        have := hget p (p + (q + 1)) hlt hq1 (by omega)
        rw [← hq2]
        simpa using this
    have h2 : geZ s s[p] = (s.take p).countP (fun y => decide (s[p] ≤ y)) + (s.drop p).countP (fun y => decide (s[p] ≤ y)) := by
      unfold geZ
      conv => lhs; arg 2; rw [hd]
      rw [List.countP_append]
    rw [h2, h1, List.length_drop]
    omega
  · rw [e2]
    have h1 : (s.take (p + 1)).countP (fun y => decide (s[p] < y)) = 0 := by
      rw [List.countP_eq_zero]
      intro y hy
      obtain ⟨q, hq⟩ := List.getElem?_of_mem hy
      rw [List.getElem?_take] at hq
      split at hq
      · rename_i hqp
        obtain ⟨hq1, hq2⟩ := List.getElem?_eq_some_iff.1 hq
        by_cases hqq : q = p
        · subst hqq
          simp [hq2]
        · have := hget q p hq1 hlt (by omega)
          rw [hq2] at this
          simp at this ⊢
          exact this
      · cases hq
    have h2 : gtZ s s[p] = (s.take (p + 1)).countP (fun y => decide (s[p] < y)) + (s.drop (p + 1)).countP (fun y => decide (s[p] < y)) := by
      unfold gtZ
      conv => lhs; arg 2; rw [hd']
      rw [List.countP_append]
    have h3 := List.countP_le_length (p := fun y => decide (s[p] < y)) (l := s.drop (p + 1))
    rw [List.length_drop] at h3
    rw [h2, h1]
    omega
theorem refR_is {l : List Int} {X : Int} (hq : quorumZ l.length ≤ geZ l X) (hmax : ∀ y, quorumZ l.length ≤ geZ l y → y ≤ X) : ∀ (xs : List Int) (b : Int) (f : Bool), (X ∈ xs ∨ (f = true ∧ b = X)) → (f = true → b ≤ X) → refR l xs b f = X
  | [], b, f, h, _ => by
    rcases h with h | h
    · cases h
    · exact h.2
  | x :: xs, b, f, h, hb => by
    unfold refR
    by_cases h1 : quorumZ l.length ≤ geZ l x
    · have hx := hmax x h1
      rw [if_pos h1]
      have hmem : X ∈ xs ∨ x = X ∨ (f = true ∧ b = X) := by
        rcases h with h | h
        · rcases List.mem_cons.1 h with h | h
          · exact .inr (.inl h.symm)
          · exact .inl h
        · exact .inr (.inr h)
      split
      · rename_i hf
        refine refR_is hq hmax xs x true ?_ (fun _ => hx)
        rcases hmem with h | h | h
        · exact .inl h
        · exact .inr ⟨rfl, h⟩
        · rw [hf] at h; cases h.1
      · rename_i hf
        have hf' : f = true := by cases f <;> simp_all
        have hbx := hb hf'
        split
        · refine refR_is hq hmax xs x true ?_ (fun _ => hx)
          rcases hmem with h | h | h
          · exact .inl h
          · exact .inr ⟨rfl, h⟩
          · exact .inr ⟨rfl, by omega⟩
        · refine refR_is hq hmax xs b f ?_ hb
          rcases hmem with h | h | h
          · exact .inl h
          · exact .inr ⟨hf', by omega⟩
          · exact .inr h
    · rw [if_neg h1]
      refine refR_is hq hmax xs b f ?_ hb
      rcases h with h | h
      · rcases List.mem_cons.1 h with h | h
        · rw [h] at hq; exact absurd hq h1
        · exact .inl h
      · exact .inr h
theorem refR_reached (l : List Int) : refR l l 0 false = reachedZ l := by
  by_cases h : l = []
  · subst h
    simp [refR, reachedZ]
  · obtain ⟨⟨h1, h2⟩, h3⟩ := reachedZ_is h
    have h0 : 0 < l.length := List.length_pos_iff.2 h
    have hq : quorumZ l.length = ((l.length / 2 + 1 : Nat) : Int) := by
      unfold quorumZ
      rw [if_neg (by omega)]
      omega
    refine refR_is (by omega) (fun y hy => ?_) l 0 false (.inl h3) (fun h => by cases h)
    rcases Int.lt_or_le (reachedZ l) y with hh | hh
    · have := ge_gt l hh
      omega
    · exact hh
theorem rotV_perm {α : Type} [Inhabited α] (l : List α) (t : Nat) : (rotV l t).Perm l := by
  by_cases h : l = []
  · subst h
    simp [rotV]
  have h0 : 0 < l.length := List.length_pos_iff.2 h
  have hm : t % l.length < l.length := Nat.mod_lt _ h0
  have : rotV l t = l.drop (t % l.length) ++ l.take (t % l.length) := by
    refine List.ext_getElem (by simp; omega) fun i h1 h2 => ?_
    simp only [rotV_length] at h1
    have hmod : (i + t) % l.length < l.length := Nat.mod_lt _ h0
    have e : (rotV l t)[i]'(by simpa using h1) = l[(i + t) % l.length] := by
      simp [rotV, List.getD_eq_getElem?_getD, hmod]
    rw [e]
    have e2 : (i + t) % l.length = (i + t % l.length) % l.length := by rw [Nat.add_mod_mod]
    rcases Nat.lt_or_ge i (l.length - t % l.length) with hi | hi
    · rw [List.getElem_append_left (by simpa using hi), List.getElem_drop]
      congr 1
      rw [e2, Nat.mod_eq_of_lt (by omega)]
      omega
    · rw [List.getElem_append_right (by simpa using hi), List.getElem_take]
      congr 1
      rw [e2]
      simp only [List.length_drop]
      have : (i + t % l.length) % l.length = i + t % l.length - l.length := by
        rw [Nat.mod_eq_sub_mod (by omega), Nat.mod_eq_of_lt (by omega)]
      omega
  rw [this]
  exact List.perm_append_comm.trans (by rw [List.take_append_drop])
theorem reached_rot (l : List Int) (t : Nat) : reachedZ (rotV l t) = reachedZ l := by
  by_cases h : l = []
  · subst h
    rfl
  · have h' : rotV l t ≠ [] := fun hh => h (List.eq_nil_of_length_eq_zero (by rw [← rotV_length l t, hh]; rfl))
    exact isReach_eq (rotV_perm l t) (reachedZ_is h').1 (reachedZ_is h).1
end Go.Ab

/- The laws of 'view', run: what most have reached. -/
namespace Go.Ab
open Go

theorem ge_take {l : List Int} {i : Nat} (h : i < l.length) (x : Int) : geZ (l.take (i + 1)) x = geZ (l.take i) x + (if x ≤ l[i] then 1 else 0) := by
  unfold geZ
  rw [List.take_succ_eq_append_getElem h, List.countP_append]
  by_cases hh : x ≤ l[i] <;> simp [hh]
theorem gt_take {l : List Int} {i : Nat} (h : i < l.length) (x : Int) : gtZ (l.take (i + 1)) x = gtZ (l.take i) x + (if x < l[i] then 1 else 0) := by
  unfold gtZ
  rw [List.take_succ_eq_append_getElem h, List.countP_append]
  by_cases hh : x < l[i] <;> simp [hh]
theorem J9 (l : List Int) (hl : l.length * 8 ≤ reachBytes') (turn : Int) : ∀ (k i : Nat) (m : Mem) (x : CV), i + k = l.length →
    LS 2 1 m x (up (((rotV l (turnN turn l.length)).take i).map encI)) → (J9_10 (tIs l) turn (reachedZ l) (geZ (l.take i) (reachedZ l) : Nat) (gtZ (l.take i) (reachedZ l) : Nat) (.c x) i m).bind frz0 = some (.ret (mkB true))
  | 0, i, m, x, h, hx => by
    unfold reachBytes' at hl
    obtain rfl : i = l.length := by omega
    have hr : (rotV l (turnN turn l.length)).take l.length = rotV l (turnN turn l.length) := List.take_of_length_le (by simp)
    rw [hr] at hx
    have hrl : (rotV l (turnN turn l.length)).length = l.length := rotV_length ..
    have hS := S37 (rotV l (turnN turn l.length)) (by unfold reachBytes'; omega)
    rw [reached_rot] at hS
    generalize rotV l (turnN turn l.length) = r at *
    have hq := S29 l.length (by rw [has_i64]; omega)
    have htl : List.take l.length l = l := List.take_length
    rw [J9_10_eq, htl]
    by_cases hne : l = []
    · subst hne
      simp [callI_eq, hx.frz, hS]
    · obtain ⟨⟨h1, h2⟩, _⟩ := reachedZ_is hne
      have h0 : 0 < l.length := List.length_pos_iff.2 hne
      have hqz : quorumZ l.length = ((l.length / 2 + 1 : Nat) : Int) := by
        unfold quorumZ
        rw [if_neg (by omega)]
        omega
      rw [hqz] at hq
      have h3 : (((l.length / 2 + 1 : Nat) : Int) ≤ geZ l (reachedZ l)) := by omega
      have h4 : ((gtZ l (reachedZ l) : Int) < ((l.length / 2 + 1 : Nat) : Int)) := by omega
      push_cast at h3 h4
      simp [callI_eq, hx.frz, hS, hq, h3, h4]
  | k + 1, i, m, x, h, hx => by
    have hl' := hl
    unfold reachBytes' at hl'
    have hlt : i < l.length := by omega
    have h1 : ((i : Int) < (l.length : Int)) := by omega
    obtain ⟨t1, t2, t3, t4, t5⟩ := turn_ok turn l.length (by omega) (by omega)
    obtain ⟨t6, t7⟩ := t5 i hlt
    have hv : l[i]? = some l[i] := List.getElem?_eq_getElem hlt
    have hrot := rotV_take_succ l (turnN turn l.length) i hlt
    have hmod : (i + turnN turn l.length) % l.length < l.length := Nat.mod_lt _ (by omega)
    have hw : l[(i + turnN turn l.length) % l.length]? = some (l.getD ((i + turnN turn l.length) % l.length) default) := by
      rw [List.getD_eq_getElem?_getD, List.getElem?_eq_getElem hmod]
      rfl
    have hz : ¬ l = [] := fun hh => by simp [hh] at hlt
    have g1 := ge_take hlt (reachedZ l)
    have g2 := gt_take hlt (reachedZ l)
    have c1 : geZ (l.take i) (reachedZ l) ≤ i := by have := List.countP_le_length (p := fun y => decide (reachedZ l ≤ y)) (l := l.take i); simp at this; unfold geZ; omega
    have c2 : gtZ (l.take i) (reachedZ l) ≤ i := by have := List.countP_le_length (p := fun y => decide (reachedZ l < y)) (l := l.take i); simp at this; unfold gtZ; omega
    generalize l.getD ((i + turnN turn l.length) % l.length) default = w at *
    generalize (i + turnN turn l.length) % l.length = p at *
    have ha := fun m => aidx_map (enc := encI) (k := 1) (m := m) hv rfl
    have hb := fun m => aidx_map (enc := encI) (k := 1) (m := m) hw rfl
    have e1 : IntKind.i64.wrap ((i : Int) + 1) = (i : Int) + 1 := in_i64 (by omega)
    -- the new number's own place
    have hm1 : ∀ id, id < m.length → (m ++ [⟨0, 1, 2, true, [(encI w).map .p]⟩])[id]? = m[id]? := fun id hid => List.getElem?_append_left hid
    have hx1 := hx.keep (m' := m ++ [⟨0, 1, 2, true, [(encI w).map .p]⟩]) fun id hid => hm1 id (hx.lt id hid)
    have hel : elems (.e (.c (.oref m.length 0 0 1))) (m ++ [⟨0, 1, 2, true, [(encI w).map .p]⟩]) = some [(encI w).map .p] := by
      simp [elems, at?_app]
    have hlen : (up (((rotV l (turnN turn l.length)).take i).map encI)).length ≤ i := by simp; omega
    obtain ⟨x', m', hap, hx2, hle, hkeep, hid⟩ := hx1.append (bytes := 8) hel (by simp [allLen, encI]) (by unfold roomB; simp at hlen ⊢; omega)
    rw [← up_snoc, ← hrot] at hx2
    have ih := J9 l hl turn k (i + 1) m' x' (by omega) hx2
    rw [g1, g2] at ih
    generalize geZ (l.take i) (reachedZ l) = a at *
    generalize gtZ (l.take i) (reachedZ l) = b at *
    have e2 : IntKind.i64.wrap ((a : Int) + 1) = (a : Int) + 1 := in_i64 (by omega)
    have e3 : IntKind.i64.wrap ((b : Int) + 1) = (b : Int) + 1 := in_i64 (by omega)
    have h16 : ∀ a b : Int, J9_16 (tIs l) turn (reachedZ l) a b (.c x) i m = J9_10 (tIs l) turn (reachedZ l) a b (.c x') (i + 1) m' := by
      intro a b
      simp only [encI, List.map_cons, List.map_nil] at hap
      rw [J9_16_eq]
      simp [t2, t3, t4, t6, t7, hz, hb, encI, afillS, hap, e1]
    rw [J9_10_eq]
    by_cases q1 : reachedZ l ≤ l[i] <;> by_cases q2 : reachedZ l < l[i] <;> simp [q1, q2] at ih <;> simp [h1, ha, encI, q1, q2, e2, e3, J9_14_eq, h16] <;> exact ih
theorem L9 (l : List Int) (hl : l.length * 8 ≤ reachBytes') (turn : Int) : ∃ m', ex E (entry E.P 9 [tIs l, tI turn] []) = some (.ret (mkB true), m') := by
  refine true_of ?_
  rw [C9]
  have hS1 := S37 l hl
  have hS2 := S38 l (by unfold reachBytes' at hl; omega)
  rw [refR_reached] at hS2
  have := J9 l hl turn l.length 0 [] (.tsl []) (by omega) (by simpa using LS.nil)
  simp [callI_eq, S26, hS1, hS2]
  simpa [geZ, gtZ] using this
end Go.Ab
