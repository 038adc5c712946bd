/- What the functions of the results' laws answer. -/
import Derived.Test.YtjbilloofeedgaaOq
set_option linter.unusedVariables false
set_option linter.unusedSimpArgs false
/- What wire.Out and the document's numbers write. -/
namespace Go.Ab
open Go

/-! ### A box of cells -/
theorem ld {m : Mem} {r k t off : Nat} {cs : List CV} {x : CV} (h : m[r]? = some ⟨0, k, t, true, [cs]⟩) (hx : cs[off]? = some x) : aload 1 false (.e (.c (.ref r 0 0 off))) m = some (.c x) := by
  have : cs.drop off = x :: cs.drop (off + 1) := by
    obtain ⟨hl, rfl⟩ := List.getElem?_eq_some_iff.1 hx
    exact List.drop_eq_getElem_cons hl
  simp [aload_ref, Mem.at?, h, this]
theorem updC1 {cs : List CV} {off : Nat} (h : off < cs.length) (v : CV) : updC cs off [v] = cs.set off v := by
  rw [List.set_eq_take_append_cons_drop, if_pos h]
  simp [updC]
theorem st {m : Mem} {r k t off : Nat} {cs : List CV} (h : m[r]? = some ⟨0, k, t, true, [cs]⟩) (hx : off < cs.length) (v : CV) : astore 1 (.e (.c (.ref r 0 0 off))) (.e (.c v)) m = some (m.set r ⟨0, k, t, true, [cs.set off v]⟩) := by
  have h1 : off + 1 ≤ cs.length := hx
  simp [astore, Mem.at?, h, h1, updC1 hx]
theorem set_get {m : Mem} {r : Nat} {o o' : AObj} (h : m[r]? = some o) : (m.set r o')[r]? = some o' := by
  obtain ⟨hl, _⟩ := List.getElem?_eq_some_iff.1 h
  simp [hl]
theorem set_ne {m : Mem} {r id : Nat} {o' : AObj} (h : id ≠ r) : (m.set r o')[id]? = m[id]? := by
  rw [List.getElem?_set_ne (Ne.symm h)]
/-- What lies below n stays. -/
def Kept (n : Nat) (m m' : Mem) : Prop := ∀ id, id < n → m'[id]? = m[id]?
theorem Kept.refl (n : Nat) (m : Mem) : Kept n m m := fun _ _ => rfl
theorem Kept.trans {n : Nat} {a b c : Mem} (h : Kept n a b) (k : Kept n b c) : Kept n a c := fun id hid => (k id hid).trans (h id hid)
theorem Kept.mono {n k : Nat} {a b : Mem} (h : Kept n a b) (hk : k ≤ n) : Kept k a b := fun id hid => h id (Nat.lt_of_lt_of_le hid hk)
theorem Kept.len {m m' : Mem} (h : Kept m.length m m') : m.length ≤ m'.length := by
  rcases Nat.lt_or_ge m'.length m.length with hl | hl
  · have h1 := h m'.length hl
    rw [List.getElem?_eq_none (Nat.le_refl _), List.getElem?_eq_getElem hl] at h1
    cases h1
  · exact hl
theorem Kept.pre {m m' : Mem} (h : Kept m.length m m') : m <+: m' := by
  refine ⟨m'.drop m.length, ?_⟩
  apply List.ext_getElem?
  intro i
  rcases Nat.lt_or_ge i m.length with hl | hl
  · rw [List.getElem?_append_left hl, h i hl]
  · rw [List.getElem?_append_right hl, List.getElem?_drop]
    congr 1
    omega
theorem kept_app (m : Mem) (l : List AObj) : Kept m.length m (m ++ l) := fun _ hid => List.getElem?_append_left hid
/-! ### Bytes -/
def encU (b : UInt8) : List CV := [.p (.c (.int .u8 (b.toNat : Int)))]
def encP (b : UInt8) : List PV := [.c (.int .u8 (b.toNat : Int))]
theorem up_encP (l : List UInt8) : up (l.map encP) = l.map encU := by simp [up, encP, encU, Function.comp_def]
theorem len_encU (l : List UInt8) : allLen 1 (l.map encU) = true := by
  induction l with
  | nil => rfl
  | cons b l ih => simp [allLen, encU, ih]
/-- A number's bytes. -/
def numF : Nat → Nat → List UInt8
  | 0, _ => []
  | k + 1, n => if n < 128 then [UInt8.ofNat n] else UInt8.ofNat (n % 128 + 128) :: numF k (n / 128)
def numB (n : Nat) : List UInt8 := numF 10 n
theorem numF_len : ∀ k n, (numF k n).length ≤ k
  | 0, _ => by simp [numF]
  | k + 1, n => by
    unfold numF
    split
    · simp
    · have := numF_len k (n / 128)
      simp
      omega
theorem one_byte (m : Mem) (b : UInt8) : elems (.e (.c (.oref m.length 0 0 1))) (m ++ [⟨0, 1, 5, true, [[.p (.c (.int .u8 (b.toNat : Int)))]]⟩]) = some ([b].map encU) := by
  simp [elems, at?_app, encU]
/-- 'wire.Out' at r holds the bytes l. -/
def OutR (m : Mem) (r : Nat) (l : List UInt8) : Prop := ∃ x, m[r]? = some ⟨0, 1, 78, true, [[x]]⟩ ∧ LS 5 1 m x (l.map encU) ∧ (idOf (.e (.c x)) = 0 ∨ r + 1 < idOf (.e (.c x)))
theorem OutR.lt {m : Mem} {r : Nat} {l : List UInt8} (h : OutR m r l) : r < m.length := by
  obtain ⟨x, hx, _⟩ := h
  exact (List.getElem?_eq_some_iff.1 hx).1
/-- An append to what the box holds. -/
theorem OutR.app {m m2 : Mem} {r : Nat} {l new : List UInt8} (h : OutR m r l) (hm : Kept m.length m m2) {s : TV} (hs : elems s m2 = some (new.map encU)) (hb : l.length + new.length ≤ roomB) :
    ∃ x, aload 1 false (.e (.c (.ref r 0 0 0))) m = some (.c x) ∧ ∃ x' m3, aappend 5 1 1 (.e (.c x)) s m2 = some (x', m3) ∧ ∃ m4, astore 1 (.e (.c (.ref r 0 0 0))) (.e (.c x')) m3 = some m4 ∧ OutR m4 r (l ++ new) ∧ Kept r m m4 := by
  obtain ⟨x, hx, hl, hid⟩ := h
  have hr : r < m.length := (List.getElem?_eq_some_iff.1 hx).1
  have hl2 : LS 5 1 m2 x (l.map encU) := hl.keep fun id hid => hm id (hl.lt id hid)
  obtain ⟨x', m3, hap, hl3, hle, hk, hid'⟩ := hl2.append (bytes := 1) hs (len_encU _) (by simpa using hb)
  have hr2 : r < m2.length := Nat.lt_of_lt_of_le hr hm.len
  have h3 : m3[r]? = some ⟨0, 1, 78, true, [[x]]⟩ := by
    rw [hk r hr2 (by omega), hm r hr, hx]
  refine ⟨x, ld hx rfl, x', m3, hap, _, st h3 (by simp) x', ⟨x', set_get h3, ?_, ?_⟩, ?_⟩
  · rw [List.map_append]
    refine hl3.keep fun id hid2 => set_ne ?_
    omega
  · have := hm.len
    omega
  · intro id hid2
    rw [set_ne (by omega), hk id (by omega) (by omega), hm id (by omega)]
theorem u8_ofNat {n : Nat} (h : n < 256) : ((UInt8.ofNat n).toNat : Int) = (n : Int) := by
  simp
  omega
set_option maxRecDepth 100000 in
theorem or128 (n : Nat) : IntKind.u8.wrap ((BitVec.ofInt 8 (IntKind.u8.wrap (n : Int)) ||| BitVec.ofInt 8 128).toNat : Int) = ((UInt8.ofNat (n % 128 + 128)).toNat : Int) := by
  have h1 : IntKind.u8.wrap (n : Int) = ((n % 256 : Nat) : Int) := by rw [wrap_u8]; omega
  rw [h1, u8_ofNat (by omega)]
  have h2 : ∀ k : Fin 256, ((BitVec.ofInt 8 (k.val : Int) ||| BitVec.ofInt 8 128).toNat : Nat) = k.val % 128 + 128 := by decide
  have h3 := h2 ⟨n % 256, by omega⟩
  simp only at h3
  rw [h3, wrap_u8]
  omega
theorem ar_or128 (n : Nat) : aarith .or .u8 (mkI .u8 (IntKind.u8.wrap (n : Int))) (mkI .u8 128) = some ((UInt8.ofNat (n % 128 + 128)).toNat : Int) := by
  rw [ar_or]
  exact congrArg some (or128 n)
theorem ar_shr7 (n : Nat) : aarith .shr .u64 (mkI .u64 (n : Int)) (mkI .u64 7) = some ((n / 128 : Nat) : Int) := by
  rw [ar_shr _ _ _ _ (by omega)]
  have : (2 : Int) ^ min (7 : Int).toNat IntKind.u64.bits = 128 := by decide
  rw [this, Int.fdiv_eq_ediv_of_nonneg _ (by omega)]
  exact congrArg some (by omega)
theorem wrap_byte (n : Nat) : IntKind.u8.wrap (n : Int) = ((UInt8.ofNat (n % 256)).toNat : Int) := by
  rw [u8_ofNat (Nat.mod_lt _ (by omega)), wrap_u8]
  omega
theorem ofNat_mod (n : Nat) : UInt8.ofNat (n % 256) = UInt8.ofNat n := by
  apply UInt8.toNat_inj.1
  simp
/-! ### wire.Out -/
theorem J55 (r : Nat) : ∀ (k n : Nat) (l : List UInt8) (m : Mem), OutR m r l → n < 128 ^ (k + 1) → n < 18446744073709551616 → l.length + (k + 1) ≤ roomB →
    ∃ m', J55_1 (.c (.ref r 0 0 0)) (n : Int) m = some (.ret (.t []), m') ∧ OutR m' r (l ++ numF (k + 1) n) ∧ Kept r m m'
  | 0, n, l, m, h, hn, hn2, hb => by
    have hn' : n < 128 := by simpa using hn
    have h1 : ¬ (127 : Int) < (n : Int) := by omega
    have hw := wrap_byte n
    rw [ofNat_mod] at hw
    have hnum : numF (0 + 1) n = [UInt8.ofNat n] := by simp [numF, hn']
    rw [hnum]
    generalize UInt8.ofNat n = b at *
    obtain ⟨x, hx, x', m3, hap, m4, hst, ho, hk⟩ := h.app (kept_app m _) (one_byte m b) (by simpa using hb)
    refine ⟨m4, ?_, ho, hk⟩
    rw [J55_1_eq]
    simp [h1, hx, hw, afillS, hap, hst]
  | k + 1, n, l, m, h, hn, hn2, hb => by
    by_cases hn' : n < 128
    · have h1 : ¬ (127 : Int) < (n : Int) := by omega
      have hw := wrap_byte n
      rw [ofNat_mod] at hw
      have hnum : numF (k + 1 + 1) n = [UInt8.ofNat n] := by rw [numF, if_pos hn']
      rw [hnum]
      generalize UInt8.ofNat n = b at *
      obtain ⟨x, hx, x', m3, hap, m4, hst, ho, hk⟩ := h.app (kept_app m _) (one_byte m b) (by simp; omega)
      refine ⟨m4, ?_, ho, hk⟩
      rw [J55_1_eq]
      simp [h1, hx, hw, afillS, hap, hst]
    · have h1 : (127 : Int) < (n : Int) := by omega
      have hw := ar_or128 n
      have hs := ar_shr7 n
      have hnum : numF (k + 1 + 1) n = UInt8.ofNat (n % 128 + 128) :: numF (k + 1) (n / 128) := by rw [numF, if_neg hn']
      rw [hnum]
      generalize UInt8.ofNat (n % 128 + 128) = b at *
      obtain ⟨x, hx, x', m3, hap, m4, hst, ho, hk⟩ := h.app (kept_app m _) (one_byte m b) (by simp; omega)
      obtain ⟨m', hr, ho', hk'⟩ := J55 r k (n / 128) (l ++ [b]) m4 ho (by rw [Nat.pow_succ] at hn; omega) (by omega) (by simp; omega)
      rw [List.append_assoc] at ho'
      refine ⟨m', ?_, ho', hk.trans hk'⟩
      rw [J55_1_eq]
      push_cast at hr
      simp [h1, hx, hw, hs, afillS, hap, hst, hr, -ar_or, -ar_shr]
theorem S55 (r n : Nat) (l : List UInt8) (m : Mem) (h : OutR m r l) (hn : n < 18446744073709551616) (hb : l.length + 10 ≤ roomB) :
    ∃ m', ans E 55 [.c (.ref r 0 0 0), .c (.p (.c (.int .u64 (n : Int))))] m = some (.ret (.t []), m') ∧ OutR m' r (l ++ numB n) ∧ Kept r m m' := by
  obtain ⟨m', h1, h2⟩ := J55 r 9 n l m h (by omega) hn hb
  refine ⟨m', ?_, h2⟩
  rw [ans_none rfl, C55]
  simp [h1]
/-- A number with a sign as one without. -/
def zzZ (n : Int) : Nat := if 0 ≤ n then (2 * n).toNat else (-2 * n - 1).toNat
theorem zz_lt {n : Int} (h : Has .i64 n) : zzZ n < 18446744073709551616 := by
  rw [has_i64] at h
  unfold zzZ
  split <;> omega
theorem xor_zero (a : Int) : (BitVec.ofInt 64 a ^^^ BitVec.ofInt 64 0).toNat = (BitVec.ofInt 64 a).toNat := by
  have : BitVec.ofInt 64 0 = 0#64 := by decide
  rw [this, BitVec.xor_zero]
theorem xor_ones (a : Int) : (BitVec.ofInt 64 a ^^^ BitVec.ofInt 64 18446744073709551615).toNat = 18446744073709551615 - (BitVec.ofInt 64 a).toNat := by
  have : BitVec.ofInt 64 18446744073709551615 = BitVec.allOnes 64 := by decide
  rw [this, BitVec.xor_allOnes, BitVec.toNat_not]
theorem zz_bits {n : Int} (h : Has .i64 n) : aarith .xor .u64 (mkI .u64 (IntKind.u64.wrap (IntKind.u64.wrap n * 2 ^ (min (1 : Int).toNat IntKind.u64.bits)))) (mkI .u64 (IntKind.u64.wrap (n.fdiv (2 ^ (min (63 : Int).toNat IntKind.i64.bits))))) = some ((zzZ n : Nat) : Int) := by
  rw [has_i64] at h
  rw [ar_xor]
  have p1 : (2 : Int) ^ min (1 : Int).toNat IntKind.u64.bits = 2 := by decide
  have p2 : (2 : Int) ^ min (63 : Int).toNat IntKind.i64.bits = 9223372036854775808 := by decide
  have pb : IntKind.u64.bits = 64 := rfl
  rw [p1, p2, pb, Int.fdiv_eq_ediv_of_nonneg _ (by omega)]
  by_cases hn : 0 ≤ n
  · have e1 : n / 9223372036854775808 = 0 := by omega
    have e2 : IntKind.u64.wrap 0 = 0 := by decide
    rw [e1, e2, xor_zero, BitVec.toNat_ofInt, wrap_u64, wrap_u64, wrap_u64]
    unfold zzZ
    rw [if_pos hn]
    refine congrArg some ?_
    omega
  · have e1 : n / 9223372036854775808 = -1 := by omega
    have e2 : IntKind.u64.wrap (-1) = 18446744073709551615 := by decide
    rw [e1, e2, xor_ones, BitVec.toNat_ofInt, wrap_u64, wrap_u64, wrap_u64]
    unfold zzZ
    rw [if_neg hn]
    refine congrArg some ?_
    omega
theorem S52 (r : Nat) (n : Int) (hn : Has .i64 n) (l : List UInt8) (m : Mem) (h : OutR m r l) (hb : l.length + 10 ≤ roomB) :
    ∃ m', ans E 52 [.c (.ref r 0 0 0), .c (.p (.c (.int .i64 n)))] m = some (.ret (.t []), m') ∧ OutR m' r (l ++ numB (zzZ n)) ∧ Kept r m m' := by
  obtain ⟨m', h1, h2⟩ := S55 r (zzZ n) l m h (zz_lt hn) hb
  refine ⟨m', ?_, h2⟩
  have hz := zz_bits hn
  rw [ans_none rfl, C52]
  have a1 := fun a => ar_shl .u64 a 1 .u64 (by omega)
  have a2 := fun a => ar_shr .i64 a 63 .u64 (by omega)
  simp only [conv_I, Option.bind_some, a1, a2, hz]
  rw [callW_ret h1]
def flagZ (b : Bool) : Nat := if b then 1 else 0
theorem S53 (r : Nat) (b : Bool) (l : List UInt8) (m : Mem) (h : OutR m r l) (hb : l.length + 10 ≤ roomB) :
    ∃ m', ans E 53 [.c (.ref r 0 0 0), .c (.p (.c (.bool b)))] m = some (.ret (.t []), m') ∧ OutR m' r (l ++ numB (flagZ b)) ∧ Kept r m m' := by
  obtain ⟨m', h1, h2⟩ := S55 r (flagZ b) l m h (by unfold flagZ; split <;> omega) hb
  refine ⟨m', ?_, h2⟩
  rw [ans_none rfl, C53]
  cases b
  · rw [cond_false]
    exact callW_ret h1
  · rw [cond_true]
    exact callW_ret h1
/-- A text's bytes. -/
def textB (s : ByteArray) : List UInt8 := numB s.size ++ s.data.toList
theorem S54 (r : Nat) (s : ByteArray) (hs : s.size ≤ 9223372036854775807) (l : List UInt8) (m : Mem) (h : OutR m r l) (hb : l.length + 10 + s.size ≤ roomB) :
    ∃ m', ans E 54 [.c (.ref r 0 0 0), .c (.p (.c (.string s)))] m = some (.ret (.t []), m') ∧ OutR m' r (l ++ textB s) ∧ Kept r m m' := by
  obtain ⟨m1, h1, h2, h3⟩ := S55 r s.size l m h (by omega) (by omega)
  have hl : s.data.toList.length = s.size := by rw [Array.length_toList]; rfl
  have hnl : (numB s.size).length ≤ 10 := numF_len 10 _
  have hel : elems (mkS s) m1 = some (s.data.toList.map encU) := rfl
  obtain ⟨x, hx, x', m3, hap, m4, hst, ho, hk⟩ := h2.app (Kept.refl _ _) hel (by simp only [List.length_append]; omega)
  rw [List.append_assoc] at ho
  refine ⟨m4, ?_, ho, h3.trans hk⟩
  have hw : IntKind.u64.wrap (s.size : Int) = (s.size : Int) := in_u64 (by omega)
  rw [ans_none rfl, C54]
  simp only [cmpP_ref, Option.bind_some, cond_false, alen_S, conv_I, hw]
  rw [callW_ret h1]
  simp [hx, hap, hst]
end Go.Ab

/- What the document's numbers and texts write. -/
namespace Go.Ab
open Go

/-- A slice of bytes in memory that is newer than n. -/
def NewB (n : Nat) (m : Mem) (x : CV) (l : List UInt8) : Prop := LS 5 1 m x (l.map encU) ∧ (idOf (.e (.c x)) = 0 ∨ n < idOf (.e (.c x)))
theorem NewB.app {n : Nat} {m m2 : Mem} {x : CV} {l new : List UInt8} (h : NewB n m x l) (hn : n ≤ m.length) (hm : Kept m.length m m2) {s : TV} (hs : elems s m2 = some (new.map encU)) (hb : l.length + new.length ≤ roomB) :
    ∃ x' m3, aappend 5 1 1 (.e (.c x)) s m2 = some (x', m3) ∧ NewB n m3 x' (l ++ new) ∧ Kept n m m3 ∧ m.length ≤ m3.length := by
  obtain ⟨hl, hid⟩ := h
  have hl2 : LS 5 1 m2 x (l.map encU) := hl.keep fun id hid => hm id (hl.lt id hid)
  obtain ⟨x', m3, hap, hl3, hle, hk, hid'⟩ := hl2.append (bytes := 1) hs (len_encU _) (by simpa using hb)
  have := hm.len
  refine ⟨x', m3, hap, ⟨by rw [List.map_append]; exact hl3, by omega⟩, fun id hi => ?_, by omega⟩
  rw [hk id (by omega) (by omega), hm id (by omega)]
theorem NewB.nil (n : Nat) (m : Mem) : NewB n m (.tsl []) [] := ⟨LS.nil, .inl rfl⟩
theorem NewB.keep {n : Nat} {m m' : Mem} {x : CV} {l : List UInt8} (h : NewB n m x l) (hm : Kept m.length m m') : NewB n m' x l := ⟨h.1.keep fun id hid => hm id (h.1.lt id hid), h.2⟩
theorem NewB.elems {n : Nat} {m : Mem} {x : CV} {l : List UInt8} (h : NewB n m x l) : elems (.e (.c x)) m = some (l.map encU) := h.1.elems
theorem NewB.mono {n k : Nat} {m : Mem} {x : CV} {l : List UInt8} (h : NewB n m x l) (hk : k ≤ n) : NewB k m x l := ⟨h.1, h.2.imp id fun h => by omega⟩
theorem J60 (N : Nat) : ∀ (k n : Nat) (l : List UInt8) (m : Mem) (x : CV), NewB N m x l → N ≤ m.length → n < 128 ^ (k + 1) → n < 18446744073709551616 → l.length + (k + 1) ≤ roomB →
    ∃ x' m', J60_2 (n : Int) (.c x) m = some (.ret (.e (.c x')), m') ∧ NewB N m' x' (l ++ numF (k + 1) n) ∧ Kept N m m'
  | 0, n, l, m, x, h, hN, hn, hn2, hb => by
    have hn' : n < 128 := by simpa using hn
    have h1 : ¬ (128 : Int) ≤ (n : Int) := by omega
    have hw := wrap_byte n
    rw [ofNat_mod] at hw
    have hnum : numF (0 + 1) n = [UInt8.ofNat n] := by simp [numF, hn']
    rw [hnum]
    generalize UInt8.ofNat n = b at *
    obtain ⟨x', m3, hap, ho, hk, _⟩ := h.app hN (kept_app m _) (one_byte m b) (by simpa using hb)
    refine ⟨x', m3, ?_, ho, hk⟩
    rw [J60_2_eq]
    simp [h1, hw, afillS, hap]
  | k + 1, n, l, m, x, h, hN, hn, hn2, hb => by
    by_cases hn' : n < 128
    · have h1 : ¬ (128 : Int) ≤ (n : Int) := by omega
      have hw := wrap_byte n
      rw [ofNat_mod] at hw
      have hnum : numF (k + 1 + 1) n = [UInt8.ofNat n] := by rw [numF, if_pos hn']
      rw [hnum]
      generalize UInt8.ofNat n = b at *
      obtain ⟨x', m3, hap, ho, hk, _⟩ := h.app hN (kept_app m _) (one_byte m b) (by simp; omega)
      refine ⟨x', m3, ?_, ho, hk⟩
      rw [J60_2_eq]
      simp [h1, hw, afillS, hap]
    · have h1 : (128 : Int) ≤ (n : Int) := by omega
      have hr1 : aarith .rem .u64 (mkI .u64 (n : Int)) (mkI .u64 128) = some ((n % 128 : Nat) : Int) := by
        rw [ar_rem, if_neg (by omega), Int.tmod_eq_emod_of_nonneg (by omega)]
        exact congrArg some (by omega)
      have hr2 : aarith .add .u64 (mkI .u64 ((n % 128 : Nat) : Int)) (mkI .u64 128) = some ((n % 128 + 128 : Nat) : Int) := by
        rw [ar_add, in_u64 (by omega)]
        exact congrArg some (by omega)
      have hr3 : aarith .quo .u64 (mkI .u64 (n : Int)) (mkI .u64 128) = some ((n / 128 : Nat) : Int) := by
        rw [ar_quo, if_neg (by omega), Int.tdiv_eq_ediv_of_nonneg (by omega), in_u64 (by omega)]
        exact congrArg some (by omega)
      have hw := wrap_byte (n % 128 + 128)
      rw [ofNat_mod] at hw
      have hnum : numF (k + 1 + 1) n = UInt8.ofNat (n % 128 + 128) :: numF (k + 1) (n / 128) := by rw [numF, if_neg hn']
      rw [hnum]
      generalize UInt8.ofNat (n % 128 + 128) = b at *
      obtain ⟨x', m3, hap, ho, hk, hle⟩ := h.app hN (kept_app m _) (one_byte m b) (by simp; omega)
      obtain ⟨x2, m', hr, ho', hk'⟩ := J60 N k (n / 128) (l ++ [b]) m3 x' ho (by omega) (by rw [Nat.pow_succ] at hn; omega) (by omega) (by simp; omega)
      rw [List.append_assoc] at ho'
      refine ⟨x2, m', ?_, ho', hk.trans hk'⟩
      rw [J60_2_eq]
      simp only [cmp_geq, h1, decide_true, Option.bind_some, cond_true, hr1, hr2, hr3, conv_I, hw]
      simp [afillS, hap]
      push_cast at hr
      exact hr
theorem S60 (n : Nat) (m : Mem) (hn : n < 18446744073709551616) :
    ∃ x m', ans E 60 [.c (.p (.c (.int .u64 (n : Int))))] m = some (.ret (.e (.c x)), m') ∧ NewB m.length m' x (numB n) ∧ Kept m.length m m' := by
  obtain ⟨x, m', h1, h2, h3⟩ := J60 m.length 9 n [] m (.tsl []) (NewB.nil _ _) (Nat.le_refl _) (by omega) hn (by decide)
  refine ⟨x, m', ?_, h2, h3⟩
  rw [ans_none rfl, C60]
  exact h1
theorem S57 (n : Int) (hn : Has .i64 n) (m : Mem) :
    ∃ x m', ans E 57 [.c (.p (.c (.int .i64 n)))] m = some (.ret (.e (.c x)), m') ∧ NewB m.length m' x (numB (zzZ n)) ∧ Kept m.length m m' := by
  obtain ⟨x, m', h1, h2, h3⟩ := S60 (zzZ n) m (zz_lt hn)
  refine ⟨x, m', ?_, h2, h3⟩
  rw [has_i64] at hn
  rw [ans_none rfl, C57]
  by_cases h0 : 0 ≤ n
  · have e1 : IntKind.u64.wrap n = n := in_u64 (by omega)
    have e2 : aarith .mul .u64 (mkI .u64 2) (mkI .u64 n) = some ((zzZ n : Nat) : Int) := by
      rw [ar_mul, in_u64 (by omega)]
      unfold zzZ
      rw [if_pos h0]
      exact congrArg some (by omega)
    simp only [cmp_geq, h0, decide_true, Option.bind_some, cond_true, conv_I, e1, e2]
    rw [callA_ret h1 h3.pre]
    rfl
  · have e1 : IntKind.i64.wrap (n + 1) = n + 1 := in_i64 (by omega)
    have e2 : aneg .i64 (mkI .i64 (n + 1)) = some (-(n + 1)) := by
      simp only [aneg, decide_true, cond_true]
      rw [in_i64 (by omega)]
      exact congrArg some (by omega)
    have e3 : IntKind.u64.wrap (-(n + 1)) = -(n + 1) := in_u64 (by omega)
    have e4 : IntKind.u64.wrap (2 * -(n + 1)) = 2 * -(n + 1) := in_u64 (by omega)
    have e5 : aarith .add .u64 (mkI .u64 (2 * -(n + 1))) (mkI .u64 1) = some ((zzZ n : Nat) : Int) := by
      rw [ar_add, in_u64 (by omega)]
      unfold zzZ
      rw [if_neg h0]
      exact congrArg some (by omega)
    simp only [cmp_geq, h0, decide_false, Option.bind_some, cond_false, conv_I, ar_add .i64, ar_mul, e1, e2, e3, e4, e5]
    rw [callA_ret h1 h3.pre]
    rfl
theorem S58 (b : Bool) (m : Mem) :
    ∃ x m', ans E 58 [.c (.p (.c (.bool b)))] m = some (.ret (.e (.c x)), m') ∧ NewB m.length m' x (numB (flagZ b)) ∧ Kept m.length m m' := by
  refine ⟨.oref m.length 0 0 1, m ++ [⟨0, 1, 5, true, [[.p (.c (.int .u8 (flagZ b : Nat)))]]⟩], ?_, ⟨.inr ⟨m.length, 0, ⟨0, 1, 5, true, [[.p (.c (.int .u8 (flagZ b : Nat)))]]⟩, ?_, ?_, ?_, rfl, rfl⟩, .inr (by simp)⟩, kept_app _ _⟩
  · rw [ans_none rfl, C58]
    cases b <;> rfl
  · cases b <;> rfl
  · simp [at?_app]
  · cases b <;> rfl
theorem S59 (s : ByteArray) (hs : s.size ≤ 9223372036854775807) (hb : 10 + s.size ≤ roomB) (m : Mem) :
    ∃ x m', ans E 59 [.c (.p (.c (.string s)))] m = some (.ret (.e (.c x)), m') ∧ NewB m.length m' x (textB s) ∧ Kept m.length m m' := by
  obtain ⟨x, m1, h1, h2, h3⟩ := S60 s.size m (by omega)
  have hl : s.data.toList.length = s.size := by rw [Array.length_toList]; rfl
  have hnl : (numB s.size).length ≤ 10 := numF_len 10 _
  have hel : elems (mkS s) m1 = some (s.data.toList.map encU) := rfl
  obtain ⟨x', m3, hap, ho, hk, _⟩ := h2.app h3.len (Kept.refl _ _) hel (by omega)
  refine ⟨x', m3, ?_, ho, h3.trans hk⟩
  have hw : IntKind.u64.wrap (s.size : Int) = (s.size : Int) := in_u64 (by omega)
  rw [ans_none rfl, C59]
  simp only [Option.bind_some, alen_S, conv_I, hw]
  rw [callA_ret h1 h3.pre]
  simp [hap]
end Go.Ab

/- Results, written. -/
namespace Go.Ab
open Go

abbrev tN (l : List ByteArray) : TE := .c (.p (.sl (l.map encS)))
abbrev tI (n : Int) : TE := .c (.p (.c (.int .i64 n)))
/-- A result. -/
structure RS where
  code : Int
  dir : Bool
  size : Int
  data : ByteArray
  names : List ByteArray
def RS.cells (r : RS) : List CV := [.p (.c (.int .i64 r.code)), .p (.c (.bool r.dir)), .p (.c (.int .i64 r.size)), .p (.c (.string r.data)), .p (.sl (r.names.map encS))]
abbrev tR (r : RS) : TE := .a r.cells
structure RS.Fits (r : RS) : Prop where
  code : Has .i64 r.code
  size : Has .i64 r.size
  data : r.data.size ≤ 9223372036854775807
  name : ∀ n ∈ r.names, n.size ≤ 9223372036854775807
  len : r.names.length ≤ 9223372036854775807
def headB (r : RS) : List UInt8 := numB (zzZ r.code) ++ numB (flagZ r.dir) ++ numB (zzZ r.size) ++ textB r.data ++ numB r.names.length
/-- A result's bytes, or what is wrong. -/
def packZ (r : RS) : List UInt8 × Int :=
  if 1100 < r.data.size ∨ ∃ n ∈ r.names, 1100 < n.size then ([], 2) else if 512 < r.names.length then ([], 8) else (headB r ++ (r.names.map textB).flatten, 0)
def packT (r : RS) : TV := .t [.c (.p (.sl ((packZ r).1.map encP))), tI (packZ r).2]
theorem textB_len (s : ByteArray) : (textB s).length ≤ 10 + s.size := by
  have hl : s.data.toList.length = s.size := by rw [Array.length_toList]; rfl
  have hnl : (numB s.size).length ≤ 10 := numF_len 10 _
  simp only [textB, List.length_append]
  omega
theorem frz_new {m : Mem} {lo n : Nat} {x : CV} {l : List UInt8} (h : NewB lo m x l) : frzC m lo (n + 1) x = some (.sl (l.map encP)) := by
  obtain ⟨h, hid⟩ := h
  rw [← up_encP] at h
  rcases h with ⟨rfl, he⟩ | ⟨id, ver, o, rfl, h2, h3, _⟩
  · have : l = [] := by simpa using he
    subst this
    rfl
  · have hm : mapO (mapO (frzC m lo n)) (up (l.map encP)) = some (l.map encP) := by
      refine mapO_some ?_
      rw [List.map_map]
      exact List.map_congr_left fun e _ => mapO_frzC_p m lo n e
    have hlo : lo ≤ id := by simp at hid; omega
    have ht : List.take (l.map encP).length (up (l.map encP)) = up (l.map encP) := List.take_of_length_le (by simp)
    have hlen : (up (l.map encP)).length = (l.map encP).length := by simp
    have hlen2 : (l.map encP).length ≤ (up (l.map encP)).length := by rw [hlen]; exact Nat.le_refl _
    simp only [frzC, h2]
    rw [hlen]
    simp only [Nat.zero_add, List.drop_zero, hlo, hlen2, decide_true, Bool.and_self, cond_true, h3, ht, hm]
theorem S56 (r : Nat) (l : List UInt8) (m : Mem) (h : OutR m r l) (hb : l.length ≤ roomB) :
    ∃ x m', ans E 56 [.c (.ref r 0 0 0)] m = some (.ret (.e (.c x)), m') ∧ NewB m.length m' x l ∧ Kept m.length m m' := by
  obtain ⟨x, hx, hl, hid⟩ := h
  obtain ⟨x', m3, hap, ho, hk, _⟩ := (NewB.nil m.length m).app (Nat.le_refl _) (Kept.refl _ _) hl.elems (by simpa using hb)
  refine ⟨x', m3, ?_, by simpa using ho, hk⟩
  have hx' := ld hx (off := 0) rfl
  rw [ans_none rfl, C56]
  simp [hx', hap]
/-! ### op.Pack -/
theorem J21a (r : RS) (hr : r.Fits) : ∀ (k i a : Nat) (m : Mem), i + k = r.names.length → a ≤ 9223372036854775807 →
    J21_3 (.c (.ref 0 0 0 0)) a (tN r.names) r.names.length i m = J21_3 (.c (.ref 0 0 0 0)) ((r.names.drop i).foldl (fun a n => max a n.size) a : Nat) (tN r.names) r.names.length r.names.length m
  | 0, i, a, m, h, ha => by
    obtain rfl : i = r.names.length := by omega
    simp
  | k + 1, i, a, m, h, ha => by
    have hlt : i < r.names.length := by omega
    have hl := hr.len
    have e1 : IntKind.i64.wrap ((i : Int) + 1) = (i : Int) + 1 := in_i64 (by omega)
    have hx : r.names[i]? = some r.names[i] := List.getElem?_eq_getElem hlt
    have hi := aidx_map (enc := encS) (k := 1) (m := m) hx rfl
    have hz := hr.name _ (List.getElem_mem hlt)
    have ih := J21a r hr k (i + 1) (max a r.names[i].size) m (by omega) (by omega)
    have hd : r.names.drop i = r.names[i] :: r.names.drop (i + 1) := List.drop_eq_getElem_cons hlt
    rw [hd, List.foldl_cons, ← ih]
    generalize r.names[i] = y at *
    have hmx : amaxI .i64 [mkI .i64 (a : Int), mkI .i64 (y.size : Int)] = some ((max a y.size : Nat) : Int) := by
      simp only [amaxI, amaxGo, asK_I]
      refine congrArg some ?_
      split <;> omega
    rw [J21_3_eq]
    have h1 : (i : Int) < (r.names.length : Int) := by omega
    simp only [cmp_lss, h1, decide_true, Option.bind_some, cond_true, hi, encS, aload_ip, List.drop_zero, List.map_cons, List.map_nil, pick_false, asS_S, alen_S, hmx, ar_add, e1]
    push_cast
    rfl
theorem fold_max : ∀ (l : List ByteArray) (a : Nat), 1100 < l.foldl (fun a n => max a n.size) a ↔ 1100 < a ∨ ∃ n ∈ l, 1100 < n.size
  | [], a => by simp
  | x :: l, a => by
    rw [List.foldl_cons, fold_max l]
    simp only [List.mem_cons, exists_eq_or_imp]
    have : 1100 < max a x.size ↔ 1100 < a ∨ 1100 < x.size := by omega
    rw [this, or_assoc]
theorem J21b (r : RS) (hr : r.Fits) (hn : ∀ n ∈ r.names, n.size ≤ 1100) : ∀ (k i : Nat) (m : Mem) (l : List UInt8), i + k = r.names.length → OutR m 1 l → l.length + k * 1110 ≤ roomB →
    (J21_18 (.c (.ref 1 0 0 0)) (tN r.names) r.names.length i m).bind frz0 = some (.ret (.t [.c (.p (.sl ((l ++ ((r.names.drop i).map textB).flatten).map encP))), tI 0]))
  | 0, i, m, l, h, ho, hb => by
    obtain rfl : i = r.names.length := by omega
    obtain ⟨x, m', h1, h2, h3⟩ := S56 1 l m ho (by omega)
    have hf : frzT m' m.length (.e (.c x)) = some (.e (.c (.p (.sl (l.map encP))))) := by
      simp only [frzT, frzE, cond_false, frz_new h2]
    have h4 := callR_ret (draw := false) (k := fun v8 => (asE v8).bind fun e9 => (some (.ret (.t [e9, .c (.p (.c (.int .i64 0)))]), m) : Option Out)) h1 h3.pre hf
    rw [J21_18_eq]
    simp only [cmp_lss, Int.lt_irrefl, decide_false, Option.bind_some, cond_false, h4]
    simp
  | k + 1, i, m, l, h, ho, hb => by
    have hlt : i < r.names.length := by omega
    have hl := hr.len
    have e1 : IntKind.i64.wrap ((i : Int) + 1) = (i : Int) + 1 := in_i64 (by omega)
    have hx : r.names[i]? = some r.names[i] := List.getElem?_eq_getElem hlt
    have hi := aidx_map (enc := encS) (k := 1) (m := m) hx rfl
    have hz := hn _ (List.getElem_mem hlt)
    have hd : r.names.drop i = r.names[i] :: r.names.drop (i + 1) := List.drop_eq_getElem_cons hlt
    rw [hd]
    generalize r.names[i] = y at *
    have htl := textB_len y
    obtain ⟨m1, h1, h2, h3⟩ := S54 1 y (by omega) l m ho (by omega)
    have ih := J21b r hr hn k (i + 1) m1 (l ++ textB y) (by omega) h2 (by simp only [List.length_append]; omega)
    have hlt' : (i : Int) < (r.names.length : Int) := by omega
    rw [J21_18_eq]
    simp only [cmp_lss, hlt', decide_true, Option.bind_some, cond_true, hi, encS, aload_ip, List.drop_zero, List.map_cons, List.map_nil, pick_false, asS_S, ar_add, e1]
    rw [callW_ret h1]
    push_cast at ih
    rw [ih]
    simp [List.append_assoc]
theorem headB_len (r : RS) : (headB r).length ≤ 50 + r.data.size := by
  have h1 := numF_len 10 (zzZ r.code)
  have h2 := numF_len 10 (flagZ r.dir)
  have h3 := numF_len 10 (zzZ r.size)
  have h4 := textB_len r.data
  have h5 := numF_len 10 r.names.length
  simp only [headB, List.length_append, numB]
  omega
theorem S21 (r : RS) (hr : r.Fits) : ansI E 21 [tR r] = some (.ret (packT r)) := by
  have hl := hr.len
  have hdz := hr.data
  have hbox : ([boxObj 37 r.cells] : Mem)[0]? = some ⟨0, 5, 37, true, [r.cells]⟩ := rfl
  have hA := J21a r hr r.names.length 0 r.data.size [boxObj 37 r.cells] (by omega) hdz
  rw [List.drop_zero] at hA
  have hA' : J21_3 (.c (.ref 0 0 0 0)) (r.data.size : Int) (.c (.p (.sl (r.names.map encS)))) (r.names.length : Int) 0 [boxObj 37 r.cells] = _ := hA
  have hmax := fold_max r.names r.data.size
  rw [ansI_none rfl, C21]
  have l3 := ld (off := 3) hbox rfl
  have l4 := ld (off := 4) hbox rfl
  simp only [List.length_nil, List.nil_append, cells_a, afield_ref, Nat.zero_add, Option.bind_some, l3, l4, asS_S, alen_S, isPC_sl, cond_false, alen_sl, List.length_map]
  rw [hA']
  generalize List.foldl (fun a n => max a n.size) r.data.size r.names = mx at *
  rw [J21_3_eq]
  simp only [cmp_lss, Int.lt_irrefl, decide_false, Option.bind_some, cond_false, cmp_gtr]
  by_cases hbig : 1100 < mx
  · have hb' : (1100 : Int) < (mx : Int) := by omega
    simp only [hb', decide_true, cond_true, Option.bind_some, frz0_ret, packT, packZ, if_pos (hmax.1 hbig)]
    simp
  · have hb' : ¬ (1100 : Int) < (mx : Int) := by omega
    have hno : ¬ (1100 < r.data.size ∨ ∃ n ∈ r.names, 1100 < n.size) := fun hh => hbig (hmax.2 hh)
    simp only [hb', decide_false, cond_false, afield_ref, Nat.zero_add, Option.bind_some, l4, isPC_sl, alen_sl, List.length_map, cmp_gtr]
    by_cases hmany : 512 < r.names.length
    · have hm' : (512 : Int) < (r.names.length : Int) := by omega
      simp only [hm', decide_true, cond_true, Option.bind_some, frz0_ret, packT, packZ, if_neg hno, if_pos hmany]
      simp
    · have hm' : ¬ (512 : Int) < (r.names.length : Int) := by omega
      have hdl : r.data.size ≤ 1100 := Nat.le_of_not_lt fun hh => hno (.inl hh)
      have hnl : ∀ n ∈ r.names, n.size ≤ 1100 := fun n hn => Nat.le_of_not_lt fun hh => hno (.inr ⟨n, hn, hh⟩)
      have ho0 : OutR ([boxObj 37 r.cells] ++ [boxObj 78 [.tsl []]]) 1 [] := ⟨.tsl [], rfl, LS.nil, .inl rfl⟩
      have hb0 : ([boxObj 37 r.cells] ++ [boxObj 78 [.tsl []]] : Mem)[0]? = some ⟨0, 5, 37, true, [r.cells]⟩ := rfl
      obtain ⟨m1, r1, o1, k1⟩ := S52 1 r.code hr.code _ _ ho0 (by decide)
      have b1 := (k1 0 (by omega)).trans hb0
      obtain ⟨m2, r2, o2, k2⟩ := S53 1 r.dir _ _ o1 (by have := numF_len 10 (zzZ r.code); unfold roomB; simp only [numB, List.length_append, List.length_nil]; omega)
      have b2 := (k2 0 (by omega)).trans b1
      obtain ⟨m3, r3, o3, k3⟩ := S52 1 r.size hr.size _ _ o2 (by have := numF_len 10 (zzZ r.code); have := numF_len 10 (flagZ r.dir); unfold roomB; simp only [numB, List.length_append, List.length_nil]; omega)
      have b3 := (k3 0 (by omega)).trans b2
      obtain ⟨m4, r4, o4, k4⟩ := S54 1 r.data (by omega) _ _ o3 (by have := numF_len 10 (zzZ r.code); have := numF_len 10 (flagZ r.dir); have := numF_len 10 (zzZ r.size); unfold roomB; simp only [numB, List.length_append, List.length_nil]; omega)
      have b4 := (k4 0 (by omega)).trans b3
      obtain ⟨m5, r5, o5, k5⟩ := S55 1 r.names.length _ _ o4 (by omega) (by have := numF_len 10 (zzZ r.code); have := numF_len 10 (flagZ r.dir); have := numF_len 10 (zzZ r.size); have := textB_len r.data; unfold roomB; simp only [numB, List.length_append, List.length_nil]; omega)
      have b5 := (k5 0 (by omega)).trans b4
      have hhead : [] ++ numB (zzZ r.code) ++ numB (flagZ r.dir) ++ numB (zzZ r.size) ++ textB r.data ++ numB r.names.length = headB r := by simp [headB]
      rw [hhead] at o5
      have hhl := headB_len r
      have hJ := J21b r hr hnl r.names.length 0 m5 (headB r) (by omega) o5 (by unfold roomB; omega)
      rw [List.drop_zero] at hJ
      have c0 := ld (off := 0) hb0 rfl
      have c1 := ld (off := 1) b1 rfl
      have c2 := ld (off := 2) b2 rfl
      have c3 := ld (off := 3) b3 rfl
      have c4 := ld (off := 4) b4 rfl
      have c5 := ld (off := 4) b5 rfl
      have hw : IntKind.u64.wrap (r.names.length : Int) = (r.names.length : Int) := in_u64 (by omega)
      have hlen1 : ([boxObj 37 r.cells] : Mem).length = 1 := rfl
      simp only [hm', decide_false, cond_false, hlen1, c0, Option.bind_some, asK_I]
      rw [callW_ret r1]
      simp only [c1, Option.bind_some, asB_B]
      rw [callW_ret r2]
      simp only [c2, Option.bind_some, asK_I]
      rw [callW_ret r3]
      simp only [c3, Option.bind_some, asS_S]
      rw [callW_ret r4]
      simp only [c4, Option.bind_some, isPC_sl, cond_false, alen_sl, List.length_map, conv_I, hw]
      rw [callW_ret r5]
      simp only [c5, Option.bind_some, isPC_sl, cond_false, alen_sl, List.length_map]
      rw [packT, packZ, if_neg hno, if_neg hmany]
      exact hJ
end Go.Ab

/- The document's Pack. -/
namespace Go.Ab
open Go

theorem J22a (r : RS) (hr : r.Fits) (m : Mem) (hbox : m[0]? = some ⟨0, 5, 37, true, [r.cells]⟩) : ∀ (k i : Nat), i + k = r.names.length →
    J22_4 (.c (.ref 0 0 0 0)) i m = if ∃ n ∈ r.names.drop i, 1100 < n.size then some (.ret (.t [.c (.tsl []), tI 2]), m) else J22_4 (.c (.ref 0 0 0 0)) r.names.length m
  | 0, i, h => by
    obtain rfl : i = r.names.length := by omega
    rw [if_neg (by simp)]
  | k + 1, i, h => by
    have hlt : i < r.names.length := by omega
    have hl := hr.len
    have e1 : IntKind.i64.wrap ((i : Int) + 1) = (i : Int) + 1 := in_i64 (by omega)
    have hx : r.names[i]? = some r.names[i] := List.getElem?_eq_getElem hlt
    have hi := aidx_map (enc := encS) (k := 1) (m := m) hx rfl
    have l4 := ld (off := 4) hbox rfl
    have ih := J22a r hr m hbox k (i + 1) (by omega)
    have hd : r.names.drop i = r.names[i] :: r.names.drop (i + 1) := List.drop_eq_getElem_cons hlt
    rw [hd]
    generalize r.names[i] = y at *
    have h1 : (i : Int) < (r.names.length : Int) := by omega
    conv => lhs; rw [J22_4_eq]
    simp only [afield_ref, Nat.zero_add, Option.bind_some, l4, isPC_sl, cond_false, alen_sl, List.length_map, cmp_lss, h1, decide_true, cond_true, hi, encS, aload_ip, List.drop_zero, List.map_cons, List.map_nil, pick_false, asS_S, alen_S, cmp_gtr]
    by_cases hy : 1100 < y.size
    · have hy' : (1100 : Int) < (y.size : Int) := by omega
      rw [if_pos ⟨y, by simp, hy⟩]
      simp only [hy', decide_true, cond_true]
    · have hy' : ¬ (1100 : Int) < (y.size : Int) := by omega
      simp only [hy', decide_false, cond_false, ar_add, e1, Option.bind_some]
      push_cast at ih
      rw [ih]
      simp only [List.mem_cons, exists_eq_or_imp, hy, false_or]
theorem J22b (r : RS) (hr : r.Fits) (hn : ∀ n ∈ r.names, n.size ≤ 1100) : ∀ (k i : Nat) (m : Mem) (x : CV) (l : List UInt8), i + k = r.names.length → m[0]? = some ⟨0, 5, 37, true, [r.cells]⟩ → NewB 1 m x l → l.length + k * 1110 ≤ roomB →
    (J22_16 (.c (.ref 0 0 0 0)) (.c x) i m).bind frz0 = some (.ret (.t [.c (.p (.sl ((l ++ ((r.names.drop i).map textB).flatten).map encP))), tI 0]))
  | 0, i, m, x, l, h, hbox, ho, hb => by
    obtain rfl : i = r.names.length := by omega
    have l4 := ld (off := 4) hbox rfl
    have hf := frz_new (n := 2) (ho.mono (Nat.zero_le 1))
    rw [J22_16_eq]
    simp only [afield_ref, Nat.zero_add, Option.bind_some, l4, isPC_sl, cond_false, alen_sl, List.length_map, cmp_lss, Int.lt_irrefl, decide_false, frz0_ret, frzT_t]
    simp [frzE, hf]
  | k + 1, i, m, x, l, h, hbox, ho, hb => by
    have hlt : i < r.names.length := by omega
    have hl := hr.len
    have e1 : IntKind.i64.wrap ((i : Int) + 1) = (i : Int) + 1 := in_i64 (by omega)
    have hx : r.names[i]? = some r.names[i] := List.getElem?_eq_getElem hlt
    have hi := aidx_map (enc := encS) (k := 1) (m := m) hx rfl
    have l4 := ld (off := 4) hbox rfl
    have hz := hn _ (List.getElem_mem hlt)
    have hd : r.names.drop i = r.names[i] :: r.names.drop (i + 1) := List.drop_eq_getElem_cons hlt
    rw [hd]
    generalize r.names[i] = y at *
    have htl := textB_len y
    have hm1 : 1 ≤ m.length := (List.getElem?_eq_some_iff.1 hbox).1
    obtain ⟨x1, m1, h1, h2, h3⟩ := S59 y (by omega) (by unfold roomB; omega) m
    obtain ⟨x2, m2, h4, h5, h6, h7⟩ := ho.app hm1 h3 h2.elems (by omega)
    have hbox2 := (h6 0 (by omega)).trans hbox
    have ih := J22b r hr hn k (i + 1) m2 x2 (l ++ textB y) (by omega) hbox2 h5 (by simp only [List.length_append]; omega)
    have hlt' : (i : Int) < (r.names.length : Int) := by omega
    rw [J22_16_eq]
    simp only [afield_ref, Nat.zero_add, Option.bind_some, l4, isPC_sl, cond_false, alen_sl, List.length_map, cmp_lss, hlt', decide_true, cond_true, hi, encS, aload_ip, List.drop_zero, List.map_cons, List.map_nil, pick_false, asS_S]
    rw [callA_ret h1 h3.pre]
    simp only [asE_E, Option.bind_some, h4, ar_add, e1]
    push_cast at ih
    rw [ih]
    simp [List.append_assoc]
theorem S22 (r : RS) (hr : r.Fits) : ansI E 22 [tR r] = some (.ret (packT r)) := by
  have hl := hr.len
  have hdz := hr.data
  have hbox : ([boxObj 37 r.cells] : Mem)[0]? = some ⟨0, 5, 37, true, [r.cells]⟩ := rfl
  have hA := J22a r hr _ hbox r.names.length 0 (by omega)
  rw [List.drop_zero] at hA
  have hA' : J22_4 (.c (.ref 0 0 0 0)) 0 [boxObj 37 r.cells] = _ := hA
  have l3 := ld (off := 3) hbox rfl
  have l4 := ld (off := 4) hbox rfl
  rw [ansI_none rfl, C22]
  simp only [List.length_nil, List.nil_append, cells_a, afield_ref, Nat.zero_add, Option.bind_some, l3, asS_S, alen_S, cmp_gtr]
  by_cases hbig : 1100 < r.data.size
  · have hb' : (1100 : Int) < (r.data.size : Int) := by omega
    simp only [hb', decide_true, cond_true, Option.bind_some, frz0_ret, packT, packZ, if_pos (Or.inl hbig)]
    simp
  · have hb' : ¬ (1100 : Int) < (r.data.size : Int) := by omega
    simp only [hb', decide_false, cond_false]
    rw [hA']
    by_cases hex : ∃ n ∈ r.names, 1100 < n.size
    · rw [if_pos hex, packT, packZ, if_pos (Or.inr hex)]
      simp
    · rw [if_neg hex, packT, packZ, if_neg (fun hh => hh.elim hbig hex)]
      have hdl : r.data.size ≤ 1100 := Nat.le_of_not_lt hbig
      have hnl : ∀ n ∈ r.names, n.size ≤ 1100 := fun n hn => Nat.le_of_not_lt fun hh => hex ⟨n, hn, hh⟩
      rw [J22_4_eq]
      simp only [afield_ref, Nat.zero_add, Option.bind_some, l4, isPC_sl, cond_false, alen_sl, List.length_map, cmp_lss, Int.lt_irrefl, decide_false, cmp_gtr]
      by_cases hmany : 512 < r.names.length
      · have hm' : (512 : Int) < (r.names.length : Int) := by omega
        rw [if_pos hmany]
        simp [hm']
      · have hm' : ¬ (512 : Int) < (r.names.length : Int) := by omega
        rw [if_neg hmany]
        have n1 := numF_len 10 (zzZ r.code)
        have n2 := numF_len 10 (flagZ r.dir)
        have n3 := numF_len 10 (zzZ r.size)
        have n4 := textB_len r.data
        have n5 := numF_len 10 r.names.length
        obtain ⟨y0, m0, r0, o0, k0⟩ := S57 r.code hr.code [boxObj 37 r.cells]
        have g0 : 1 ≤ m0.length := k0.len
        have b0 := (k0 0 (by simp)).trans hbox
        have o0' : NewB 1 m0 y0 (numB (zzZ r.code)) := o0
        obtain ⟨y1, m1, r1, o1, k1⟩ := S58 r.dir m0
        obtain ⟨x1, w1, a1, p1, q1, g1⟩ := o0'.app g0 k1 o1.elems (by unfold roomB; simp only [numB, List.length_append]; omega)
        have b1 := (k1 0 (by omega)).trans b0
        have c1 := (q1 0 (by omega)).trans b0
        obtain ⟨y2, m2, r2, o2, k2⟩ := S57 r.size hr.size w1
        obtain ⟨x2, w2, a2, p2, q2, g2⟩ := p1.app (by omega) k2 o2.elems (by unfold roomB; simp only [numB, List.length_append]; omega)
        have b2 := (k2 0 (by omega)).trans c1
        have c2 := (q2 0 (by omega)).trans c1
        obtain ⟨y3, m3, r3, o3, k3⟩ := S59 r.data (by omega) (by unfold roomB; omega) w2
        obtain ⟨x3, w3, a3, p3, q3, g3⟩ := p2.app (by omega) k3 o3.elems (by unfold roomB; simp only [numB, List.length_append]; omega)
        have c3 := (q3 0 (by omega)).trans c2
        obtain ⟨y4, m4, r4, o4, k4⟩ := S60 r.names.length w3 (by omega)
        obtain ⟨x4, w4, a4, p4, q4, g4⟩ := p3.app (by omega) k4 o4.elems (by unfold roomB; simp only [numB, List.length_append]; omega)
        have c4 := (q4 0 (by omega)).trans c3
        have hhead : numB (zzZ r.code) ++ numB (flagZ r.dir) ++ numB (zzZ r.size) ++ textB r.data ++ numB r.names.length = headB r := rfl
        rw [hhead] at p4
        have hhl := headB_len r
        have hJ := J22b r hr hnl r.names.length 0 w4 x4 (headB r) (by omega) c4 p4 (by unfold roomB; omega)
        rw [List.drop_zero] at hJ
        have l0 := ld (off := 0) hbox rfl
        have e1 := ld (off := 1) b0 rfl
        have e2 := ld (off := 2) c1 rfl
        have e3 := ld (off := 3) c2 rfl
        have e4 := ld (off := 4) c3 rfl
        have hw : IntKind.u64.wrap (r.names.length : Int) = (r.names.length : Int) := in_u64 (by omega)
        simp only [hm', decide_false, cond_false, l0, Option.bind_some, asK_I]
        rw [callA_ret r0 k0.pre]
        simp only [asE_E, e1, Option.bind_some, asB_B]
        rw [callA_ret r1 k1.pre]
        simp only [asE_E, a1, e2, Option.bind_some, asK_I]
        rw [callA_ret r2 k2.pre]
        simp only [asE_E, a2, e3, Option.bind_some, asS_S]
        rw [callA_ret r3 k3.pre]
        simp only [asE_E, a3, e4, Option.bind_some, isPC_sl, cond_false, alen_sl, List.length_map, conv_I, hw]
        rw [callA_ret r4 k4.pre]
        simp only [asE_E, a4, Option.bind_some]
        exact hJ
end Go.Ab

/- What wire.In reads: bytes, one by one. -/
namespace Go.Ab
open Go

/-- A slice that shows the bytes l. -/
def SV (m : Mem) (x : CV) (l : List UInt8) : Prop :=
  ((x = .tsl [] ∨ x = .p (.sl [])) ∧ l = []) ∨ ∃ id ver off o, x = .oref id ver off l.length ∧ m.at? id ver = some o ∧ o.k = 1 ∧ off + l.length ≤ o.es.length ∧ (o.es.drop off).take l.length = l.map encU
section
variable {m : Mem} {x : CV} {l : List UInt8}
theorem SV.pc (h : SV m x l) : isPC (.e (.c x)) = false := by
  rcases h with ⟨rfl | rfl, _⟩ | ⟨id, ver, off, o, rfl, _⟩ <;> rfl
theorem SV.len (h : SV m x l) : alen (.e (.c x)) = some (l.length : Int) := by
  rcases h with ⟨rfl | rfl, rfl⟩ | ⟨id, ver, off, o, rfl, _⟩ <;> rfl
theorem SV.elems (h : SV m x l) : elems (.e (.c x)) m = some (l.map encU) := by
  rcases h with ⟨rfl | rfl, rfl⟩ | ⟨id, ver, off, o, rfl, h2, h3, h4, h5⟩
  · rfl
  · rfl
  · simp [Ab.elems, h2, h4, h5]
theorem toBytes_enc : ∀ l : List UInt8, toBytes (l.map encU) = some l
  | [] => rfl
  | b :: l => by
    have : toByte (encU b) = some b := by
      simp [toByte, encU]
    simp [toBytes, this, toBytes_enc l]
theorem SV.bytes (h : SV m x l) : abytesOf (.e (.c x)) m = some ⟨l.toArray⟩ := by
  simp [abytesOf, h.elems, toBytes_enc, h.pc]
theorem SV.first {b : UInt8} (h : SV m x (b :: l)) : ∃ a, aidx 1 (.e (.c x)) 0 m = some a ∧ aload 1 false (.e (.c a)) m = some (.c (.p (.c (.int .u8 (b.toNat : Int))))) := by
  rcases h with ⟨_, h⟩ | ⟨id, ver, off, o, rfl, h2, h3, h4, h5⟩
  · cases h
  · have h6 := at?_get h2
    have hk : hasK 1 m id = true := by simp [hasK, h6.1, h3]
    refine ⟨.ref id ver off 0, ?_, ?_⟩
    · simp [aidx, hk]
    · have h7 : o.es[off]? = some (encU b) := by
        have h8 : ((o.es.drop off).take (b :: l).length)[0]? = some (encU b) := by rw [h5]; rfl
        simpa using h8
      simp [aload_ref, h2, h7, encU]
theorem SV.drop (h : SV m x l) {n : Nat} (hn : n ≤ l.length) : ∃ y, aslice 1 (.e (.c x)) (some (n : Int)) none m = some y ∧ SV m y (l.drop n) ∧ (idOf (.e (.c y)) = idOf (.e (.c x))) := by
  rcases h with ⟨rfl | rfl, rfl⟩ | ⟨id, ver, off, o, rfl, h2, h3, h4, h5⟩
  · obtain rfl : n = 0 := by simpa using hn
    exact ⟨.p (.sl []), rfl, .inl ⟨.inr rfl, rfl⟩, rfl⟩
  · obtain rfl : n = 0 := by simpa using hn
    exact ⟨.p (.sl []), rfl, .inl ⟨.inr rfl, rfl⟩, rfl⟩
  · have h6 := at?_get h2
    have hk : hasK 1 m id = true := by simp [hasK, h6.1, h3]
    have e1 : ((l.length : Int) - (n : Int)).toNat = l.length - n := by omega
    refine ⟨.oref id ver (off + n) (l.drop n).length, ?_, .inr ⟨id, ver, off + n, o, rfl, h2, h3, by simp; omega, ?_⟩, rfl⟩
    · have e2 : (n : Int) ≤ (l.length : Int) := by omega
      simp [aslice, hk, e1, e2, hn]
    · rw [← List.drop_drop, List.map_drop, ← h5, List.drop_take]
      simp
theorem SV.take (h : SV m x l) {n : Nat} (hn : n ≤ l.length) : ∃ y, aslice 1 (.e (.c x)) none (some (n : Int)) m = some y ∧ SV m y (l.take n) ∧ (idOf (.e (.c y)) = idOf (.e (.c x))) := by
  rcases h with ⟨rfl | rfl, rfl⟩ | ⟨id, ver, off, o, rfl, h2, h3, h4, h5⟩
  · obtain rfl : n = 0 := by simpa using hn
    exact ⟨.p (.sl []), rfl, .inl ⟨.inr rfl, rfl⟩, rfl⟩
  · obtain rfl : n = 0 := by simpa using hn
    exact ⟨.p (.sl []), rfl, .inl ⟨.inr rfl, rfl⟩, rfl⟩
  · have h6 := at?_get h2
    have hk : hasK 1 m id = true := by simp [hasK, h6.1, h3]
    have hl : (l.take n).length = n := by simp; omega
    refine ⟨.oref id ver off (l.take n).length, ?_, .inr ⟨id, ver, off, o, rfl, h2, h3, by omega, ?_⟩, rfl⟩
    · have e2 : (n : Int) ≤ (l.length : Int) := by omega
      simp [aslice, hk, e2, hn, hl]
    · rw [hl, List.map_take, ← h5, List.take_take]
      congr 1
      omega
theorem SV.keep {m' : Mem} (h : SV m x l) (hm : ∀ id, id + 1 = idOf (.e (.c x)) → m'[id]? = m[id]?) : SV m' x l := by
  rcases h with h | ⟨id, ver, off, o, rfl, h2, h3⟩
  · exact .inl h
  · refine .inr ⟨id, ver, off, o, rfl, ?_, h3⟩
    rw [at?_same (hm id rfl)]
    exact h2
end
/-- 'wire.In' at r has the bytes l left, and e was wrong. -/
def InR (m : Mem) (r : Nat) (l : List UInt8) (e : Int) : Prop := ∃ x, m[r]? = some ⟨0, 2, 119, true, [[x, .p (.c (.int .i64 e))]]⟩ ∧ SV m x l ∧ idOf (.e (.c x)) ≤ r
/-- All but r is as it was. -/
def But (r : Nat) (m m' : Mem) : Prop := m'.length = m.length ∧ ∀ id, id ≠ r → m'[id]? = m[id]?
theorem But.refl (r : Nat) (m : Mem) : But r m m := ⟨rfl, fun _ _ => rfl⟩
theorem But.trans {r : Nat} {a b c : Mem} (h : But r a b) (k : But r b c) : But r a c := ⟨k.1.trans h.1, fun id hid => (k.2 id hid).trans (h.2 id hid)⟩
theorem but_set (r : Nat) (m : Mem) (o : AObj) : But r m (m.set r o) := ⟨by simp, fun id hid => set_ne hid⟩
/-- What is newer than the box doesn't touch it. -/
theorem InR.keep {m m' : Mem} {r : Nat} {l : List UInt8} {e : Int} (h : InR m r l e) (hk : Kept (r + 1) m m') : InR m' r l e := by
  obtain ⟨x, h1, h2, h3⟩ := h
  exact ⟨x, (hk r (by omega)).trans h1, h2.keep fun id hid => hk id (by omega), h3⟩
theorem S87 (r : Nat) (l : List UInt8) (e c : Int) (m : Mem) (h : InR m r l e) : ∃ m', ans E 87 [.c (.ref r 0 0 0), tI c] m = some (.ret (.t []), m') ∧ InR m' r [] c ∧ But r m m' := by
  obtain ⟨x, h1, h2, h3⟩ := h
  have s1 := st (off := 0) h1 (by simp) (.tsl [])
  have h4 := set_get (o' := ⟨0, 2, 119, true, [[x, .p (.c (.int .i64 e))].set 0 (.tsl [])]⟩) h1
  have s2 := st (off := 1) h4 (by simp) (.p (.c (.int .i64 c)))
  refine ⟨_, ?_, ⟨.tsl [], set_get h4, .inl ⟨.inl rfl, rfl⟩, by simp⟩, (but_set _ _ _).trans (but_set _ _ _)⟩
  rw [ans_none rfl, C87]
  simp only [anil_ref, afield_ref, Nat.zero_add, Option.bind_some, s1, s2]
  rfl
abbrev tU (b : UInt8) : TE := .c (.p (.c (.int .u8 (b.toNat : Int))))
theorem S86 (r : Nat) (l : List UInt8) (m : Mem) (h : InR m r l 0) : ∃ m', ans E 86 [.c (.ref r 0 0 0)] m = some (.ret (match l with
    | [] => .t [.c (.p (.c (.int .u8 0))), .c (.p (.c (.bool false)))]
    | b :: _ => .t [tU b, .c (.p (.c (.bool true)))]), m') ∧ InR m' r l.tail (match l with | [] => 20 | _ :: _ => 0) ∧ But r m m' := by
  have hh := h
  obtain ⟨x, h1, h2, h3⟩ := h
  have l0 := ld (off := 0) h1 rfl
  have l1 := ld (off := 1) h1 rfl
  rw [ans_none rfl, C86]
  cases l with
  | nil =>
    obtain ⟨m', h4, h5, h6⟩ := S87 r [] 0 20 m hh
    refine ⟨m', ?_, h5, h6⟩
    simp only [cmpP_ref, anil_ref, afield_ref, Nat.zero_add, Option.bind_some, cond_false, l0, l1, asK_I, cmp_neq, decide_true, Bool.not_true, h2.pc, h2.len, cmp_eql, List.length_nil, Int.natCast_zero, cond_true]
    exact callW_ret h4
  | cons b l =>
    obtain ⟨a, ha, hb⟩ := h2.first
    obtain ⟨y, hy, hy2, hy3⟩ := h2.drop (n := 1) (by simp)
    have s1 := st (off := 0) h1 (by simp) y
    have hne : ¬ (((b :: l).length : Int) = 0) := by simp; omega
    refine ⟨_, ?_, ⟨y, set_get h1, hy2.keep fun id hid => set_ne (by omega), by omega⟩, but_set _ _ _⟩
    simp only [cmpP_ref, anil_ref, afield_ref, Nat.zero_add, Option.bind_some, cond_false, l0, l1, asK_I, cmp_neq, decide_true, Bool.not_true, h2.pc, h2.len, cmp_eql, hne, decide_false, ha, hb, s1]
    have hy' : aslice 1 (.e (.c x)) (some 1) none m = some y := hy
    simp only [hy', Option.bind_some, s1]
    rfl
theorem S86e (r : Nat) (l : List UInt8) (e : Int) (he : e ≠ 0) (m : Mem) (h : InR m r l e) : ans E 86 [.c (.ref r 0 0 0)] m = some (.ret (.t [.c (.p (.c (.int .u8 0))), .c (.p (.c (.bool false)))]), m) := by
  obtain ⟨x, h1, h2, h3⟩ := h
  have l1 := ld (off := 1) h1 rfl
  rw [ans_none rfl, C86]
  simp only [cmpP_ref, anil_ref, afield_ref, Nat.zero_add, Option.bind_some, cond_false, l1, asK_I, cmp_neq, he, decide_false, Bool.not_false, cond_true]
end Go.Ab

/- What wire.In reads: numbers. -/
namespace Go.Ab
open Go

/-- A number read: its value, what was wrong, what is left. -/
def numR : Nat → Nat → Nat → List UInt8 → Nat × Int × List UInt8
  | 0, _, _, l => (0, 21, l)
  | _ + 1, _, _, [] => (0, 20, [])
  | k + 1, i, n, c :: l => if (i = 9 ∧ 1 < c.toNat) ∨ (0 < i ∧ c.toNat = 0) then (0, 21, []) else if c.toNat < 128 then (n + c.toNat * 128 ^ i, 0, l) else numR k (i + 1) (n + (c.toNat - 128) * 128 ^ i) l
/-- What is left, and what was wrong. -/
abbrev St := List UInt8 × Int
def numS (s : St) : Nat × St := if s.2 = 0 then ((numR 10 0 0 s.1).1, (numR 10 0 0 s.1).2.2, (numR 10 0 0 s.1).2.1) else (0, s)
set_option maxRecDepth 100000 in
theorem and127 (c : UInt8) : aarith .and .u8 (mkI .u8 (c.toNat : Int)) (mkI .u8 127) = some ((c.toNat % 128 : Nat) : Int) := by
  rw [ar_and]
  have h2 : ∀ k : Fin 256, ((BitVec.ofInt 8 (k.val : Int) &&& BitVec.ofInt 8 127).toNat : Nat) = k.val % 128 := by decide
  have hc := c.toNat_lt
  have h3 := h2 ⟨c.toNat, by omega⟩
  simp only at h3
  show some (IntKind.u8.wrap ((BitVec.ofInt 8 (c.toNat : Int) &&& BitVec.ofInt 8 127).toNat : Int)) = _
  rw [h3, in_u8 (by omega)]
theorem pow_128 (i : Nat) : 2 ^ (7 * i) = 128 ^ i := by
  rw [Nat.pow_mul]
theorem or_add {n d i : Nat} (hn : n < 128 ^ i) (hs : n + d * 128 ^ i < 18446744073709551616) : aarith .or .u64 (mkI .u64 (n : Int)) (mkI .u64 ((d * 128 ^ i : Nat) : Int)) = some ((n + d * 128 ^ i : Nat) : Int) := by
  rw [ar_or]
  have h64 : IntKind.u64.bits = 64 := rfl
  have e1 : (BitVec.ofInt 64 (n : Int)).toNat = n := by
    rw [BitVec.toNat_ofInt]
    omega
  have e2 : (BitVec.ofInt 64 ((d * 128 ^ i : Nat) : Int)).toNat = d * 128 ^ i := by
    rw [BitVec.toNat_ofInt]
    omega
  rw [h64, BitVec.toNat_or, e1, e2]
  have hn' : n < 2 ^ (7 * i) := by rw [pow_128]; exact hn
  have := Nat.two_pow_add_eq_or_of_lt hn' d
  rw [pow_128, Nat.mul_comm (128 ^ i) d] at this
  rw [Nat.or_comm, ← this, in_u64 (by omega)]
  exact congrArg some (by omega)
theorem shl_mul {d i : Nat} (hi : i ≤ 9) (hs : d * 128 ^ i < 18446744073709551616) (k : IntKind) : aarith .shl .u64 (mkI .u64 (d : Int)) (mkI k ((7 * i : Nat) : Int)) = some ((d * 128 ^ i : Nat) : Int) := by
  rw [ar_shl _ _ _ _ (by omega)]
  have e1 : min ((7 * i : Nat) : Int).toNat IntKind.u64.bits = 7 * i := by
    have : IntKind.u64.bits = 64 := rfl
    omega
  have e2 : (d : Int) * 2 ^ (7 * i) = ((d * 128 ^ i : Nat) : Int) := by
    rw [← pow_128]
    push_cast
    rfl
  rw [e1, e2, in_u64 (by omega)]
theorem pow_le9 {i : Nat} (hi : i ≤ 8) : 128 ^ i ≤ 72057594037927936 := by
  have : 128 ^ i ≤ 128 ^ 8 := Nat.pow_le_pow_right (by omega) hi
  omega
/-- How far a number may grow. -/
theorem num_fits {n i : Nat} {c : UInt8} (hi : i ≤ 9) (hn : n < 128 ^ i) (hc : ¬ (i = 9 ∧ 1 < c.toNat)) : n + c.toNat % 128 * 128 ^ i < 18446744073709551616 ∧ (i ≤ 8 → n + c.toNat % 128 * 128 ^ i < 128 ^ (i + 1)) := by
  by_cases h9 : i = 9
  · subst h9
    have hc1 : c.toNat ≤ 1 := by omega
    have hp : 128 ^ 9 = 9223372036854775808 := by decide
    rw [hp] at hn ⊢
    have : c.toNat % 128 ≤ 1 := by omega
    refine ⟨?_, fun h => absurd h (by omega)⟩
    rcases Nat.le_one_iff_eq_zero_or_eq_one.1 this with h | h <;> rw [h] <;> omega
  · have hp := pow_le9 (i := i) (by omega)
    have hm : c.toNat % 128 ≤ 127 := by omega
    have h1 : c.toNat % 128 * 128 ^ i ≤ 127 * 128 ^ i := Nat.mul_le_mul_right _ hm
    have h2 : 128 ^ (i + 1) = 128 * 128 ^ i := by rw [Nat.pow_succ]; omega
    exact ⟨by omega, fun _ => by omega⟩
/-- May a number's byte not stand there? -/
abbrev badAt (i : Nat) (c : UInt8) : Prop := (i = 9 ∧ 1 < c.toNat) ∨ (0 < i ∧ c.toNat = 0)
theorem J65_bad (r i n : Nat) (m : Mem) (c : UInt8) (l : List UInt8) (h : InR m r (c :: l) 0) (hb : badAt i c) :
    ∃ m', J65_4 (.c (.ref r 0 0 0)) n i m = some (.ret (mkI .u64 0), m') ∧ InR m' r [] 21 ∧ But r m m' := by
  obtain ⟨m1, h1, h2, h3⟩ := S86 r _ m h
  obtain ⟨m2, h4, h5, h6⟩ := S87 r _ _ 21 m1 h2
  refine ⟨m2, ?_, h5, h3.trans h6⟩
  have hA1 : acmp .no .eql (mkI .i64 (i : Int)) (mkI .i64 9) = some (decide (i = 9)) := by rw [cmp_eql]; exact congrArg some (by rw [decide_eq_decide]; omega)
  have hA2 : acmp .no .gtr (mkI .u8 (c.toNat : Int)) (mkI .u8 1) = some (decide (1 < c.toNat)) := by rw [cmp_gtr]; exact congrArg some (by rw [decide_eq_decide]; omega)
  have hA3 : acmp .no .gtr (mkI .i64 (i : Int)) (mkI .i64 0) = some (decide (0 < i)) := by rw [cmp_gtr]; exact congrArg some (by rw [decide_eq_decide]; omega)
  have hA4 : acmp .no .eql (mkI .u8 (c.toNat : Int)) (mkI .u8 0) = some (decide (c.toNat = 0)) := by rw [cmp_eql]; exact congrArg some (by rw [decide_eq_decide]; omega)
  rw [J65_4_eq, callW_ret h1]
  by_cases a1 : i = 9
  · rw [decide_eq_true a1] at hA1
    by_cases a2 : 1 < c.toNat
    · rw [decide_eq_true a2] at hA2
      simp only [aext_0, aext_1, Option.bind_some, asK_I, asB_B, anot_B, Bool.not_true, cond_false, hA1, hA2, cond_true]
      exact callW_ret h4
    · rw [decide_eq_false a2] at hA2
      have a4 : c.toNat = 0 := by
        rcases hb with hb | hb
        · exact absurd hb.2 a2
        · exact hb.2
      rw [decide_eq_true a4] at hA4
      rw [decide_eq_true (by omega)] at hA3
      simp only [aext_0, aext_1, Option.bind_some, asK_I, asB_B, anot_B, Bool.not_true, cond_false, hA1, hA2, hA3, hA4, cond_true]
      exact callW_ret h4
  · rw [decide_eq_false a1] at hA1
    obtain ⟨a3, a4⟩ : 0 < i ∧ c.toNat = 0 := by
      rcases hb with hb | hb
      · exact absurd hb.1 a1
      · exact hb
    rw [decide_eq_true a4] at hA4
    rw [decide_eq_true a3] at hA3
    simp only [aext_0, aext_1, Option.bind_some, asK_I, asB_B, anot_B, Bool.not_true, cond_false, hA1, hA3, hA4, cond_true]
    exact callW_ret h4
/-- What a good byte brings. -/
theorem J65_good (r i n : Nat) (m : Mem) (c : UInt8) (l : List UInt8) (h : InR m r (c :: l) 0) (hi : i ≤ 9) (hn : n < 128 ^ i) (hb : ¬ badAt i c) :
    ∃ m', InR m' r l 0 ∧ But r m m' ∧ J65_4 (.c (.ref r 0 0 0)) n i m = if c.toNat < 128 then some (.ret (mkI .u64 ((n + c.toNat % 128 * 128 ^ i : Nat) : Int)), m') else J65_4 (.c (.ref r 0 0 0)) ((n + c.toNat % 128 * 128 ^ i : Nat) : Int) ((i + 1 : Nat) : Int) m' := by
  obtain ⟨m1, h1, h2, h3⟩ := S86 r _ m h
  refine ⟨m1, h2, h3, ?_⟩
  have hn9 : ¬ (i = 9 ∧ 1 < c.toNat) := fun hh => hb (.inl hh)
  have hn0 : ¬ (0 < i ∧ c.toNat = 0) := fun hh => hb (.inr hh)
  obtain ⟨hf, _⟩ := num_fits hi hn hn9
  have e1 := and127 c
  have e2 : IntKind.u64.wrap ((c.toNat % 128 : Nat) : Int) = ((c.toNat % 128 : Nat) : Int) := in_u64 (by omega)
  have e3 : aarith .mul .i64 (mkI .i64 7) (mkI .i64 (i : Int)) = some ((7 * i : Nat) : Int) := by
    rw [ar_mul, in_i64 (by omega)]
    exact congrArg some (by omega)
  have e4 := shl_mul (d := c.toNat % 128) hi (by omega) .i64
  have e5 := or_add hn hf
  have e6 : IntKind.i64.wrap ((i : Int) + 1) = ((i + 1 : Nat) : Int) := by
    rw [in_i64 (by omega)]
    omega
  have hA1 : acmp .no .eql (mkI .i64 (i : Int)) (mkI .i64 9) = some (decide (i = 9)) := by rw [cmp_eql]; exact congrArg some (by rw [decide_eq_decide]; omega)
  have hA2 : acmp .no .gtr (mkI .u8 (c.toNat : Int)) (mkI .u8 1) = some (decide (1 < c.toNat)) := by rw [cmp_gtr]; exact congrArg some (by rw [decide_eq_decide]; omega)
  have hA3 : acmp .no .gtr (mkI .i64 (i : Int)) (mkI .i64 0) = some (decide (0 < i)) := by rw [cmp_gtr]; exact congrArg some (by rw [decide_eq_decide]; omega)
  have hA4 : acmp .no .eql (mkI .u8 (c.toNat : Int)) (mkI .u8 0) = some (decide (c.toNat = 0)) := by rw [cmp_eql]; exact congrArg some (by rw [decide_eq_decide]; omega)
  have hA5 : acmp .no .lss (mkI .u8 (c.toNat : Int)) (mkI .u8 128) = some (decide (c.toNat < 128)) := by rw [cmp_lss]; exact congrArg some (by rw [decide_eq_decide]; omega)
  rw [J65_4_eq, callW_ret h1]
  generalize n + c.toNat % 128 * 128 ^ i = v at *
  by_cases a1 : i = 9
  · rw [decide_eq_true a1] at hA1
    rw [decide_eq_false (by omega)] at hA2
    rw [decide_eq_true (by omega)] at hA3
    rw [decide_eq_false (by omega)] at hA4
    simp only [aext_0, aext_1, Option.bind_some, asK_I, asB_B, anot_B, Bool.not_true, cond_false, cond_true, hA1, hA2, hA3, hA4, hA5, e1, conv_I, e2, e3, e4, e5, ar_add, e6, cond_dec]
  · rw [decide_eq_false a1] at hA1
    by_cases a3 : 0 < i
    · rw [decide_eq_true a3] at hA3
      rw [decide_eq_false (by omega)] at hA4
      simp only [aext_0, aext_1, Option.bind_some, asK_I, asB_B, anot_B, Bool.not_true, cond_false, cond_true, hA1, hA3, hA4, hA5, e1, conv_I, e2, e3, e4, e5, ar_add, e6, cond_dec]
    · rw [decide_eq_false a3] at hA3
      simp only [aext_0, aext_1, Option.bind_some, asK_I, asB_B, anot_B, Bool.not_true, cond_false, cond_true, hA1, hA3, hA5, e1, conv_I, e2, e3, e4, e5, ar_add, e6, cond_dec]
theorem numR_nil (k i n : Nat) : numR (k + 1) i n [] = (0, 20, []) := rfl
theorem numR_bad {k i n : Nat} {c : UInt8} {l : List UInt8} (h : badAt i c) : numR (k + 1) i n (c :: l) = (0, 21, []) := by
  unfold numR
  rw [if_pos h]
theorem numR_end {k i n : Nat} {c : UInt8} {l : List UInt8} (h : ¬ badAt i c) (hc : c.toNat < 128) : numR (k + 1) i n (c :: l) = (n + c.toNat % 128 * 128 ^ i, 0, l) := by
  unfold numR
  rw [if_neg h, if_pos hc, Nat.mod_eq_of_lt hc]
theorem numR_more {k i n : Nat} {c : UInt8} {l : List UInt8} (h : ¬ badAt i c) (hc : ¬ c.toNat < 128) : numR (k + 1) i n (c :: l) = numR k (i + 1) (n + c.toNat % 128 * 128 ^ i) l := by
  have := c.toNat_lt
  have e : c.toNat % 128 = c.toNat - 128 := by omega
  conv => lhs; unfold numR
  rw [if_neg h, if_neg hc, e]
theorem J65 (r : Nat) : ∀ (k i n : Nat) (m : Mem) (l : List UInt8), i + k = 9 → n < 128 ^ i → InR m r l 0 →
    ∃ m', J65_4 (.c (.ref r 0 0 0)) n i m = some (.ret (mkI .u64 ((numR (k + 1) i n l).1 : Nat)), m') ∧ InR m' r (numR (k + 1) i n l).2.2 (numR (k + 1) i n l).2.1 ∧ But r m m' := by
  intro k
  induction k with
  | zero =>
    intro i n m l hi hn h
    cases l with
    | nil =>
      obtain ⟨m1, h1, h2, h3⟩ := S86 r [] m h
      refine ⟨m1, ?_, h2, h3⟩
      rw [J65_4_eq, callW_ret h1]
      rfl
    | cons c l =>
      by_cases hb : badAt i c
      · obtain ⟨m', h1, h2, h3⟩ := J65_bad r i n m c l h hb
        rw [numR_bad hb]
        exact ⟨m', h1, h2, h3⟩
      · obtain ⟨m', h1, h2, h3⟩ := J65_good r i n m c l h (by omega) hn hb
        have hc : c.toNat < 128 := by
          refine Nat.lt_of_not_le fun hh => hb (.inl ⟨by omega, by omega⟩)
        rw [if_pos hc] at h3
        rw [numR_end hb hc]
        exact ⟨m', h3, h1, h2⟩
  | succ k ih =>
    intro i n m l hi hn h
    cases l with
    | nil =>
      obtain ⟨m1, h1, h2, h3⟩ := S86 r [] m h
      refine ⟨m1, ?_, h2, h3⟩
      rw [J65_4_eq, callW_ret h1]
      rfl
    | cons c l =>
      by_cases hb : badAt i c
      · obtain ⟨m', h1, h2, h3⟩ := J65_bad r i n m c l h hb
        rw [numR_bad hb]
        exact ⟨m', h1, h2, h3⟩
      · obtain ⟨m', h1, h2, h3⟩ := J65_good r i n m c l h (by omega) hn hb
        by_cases hc : c.toNat < 128
        · rw [if_pos hc] at h3
          rw [numR_end hb hc]
          exact ⟨m', h3, h1, h2⟩
        · rw [if_neg hc] at h3
          rw [numR_more hb hc]
          obtain ⟨_, hf⟩ := num_fits (i := i) (n := n) (c := c) (by omega) hn fun hh => hb (.inl hh)
          obtain ⟨m2, h4, h5, h6⟩ := ih (i + 1) _ m' l (by omega) (hf (by omega)) h1
          exact ⟨m2, h3.trans h4, h5, h2.trans h6⟩
theorem S65 (r : Nat) (s : St) (m : Mem) (h : InR m r s.1 s.2) :
    ∃ m', ans E 65 [.c (.ref r 0 0 0)] m = some (.ret (mkI .u64 ((numS s).1 : Nat)), m') ∧ InR m' r (numS s).2.1 (numS s).2.2 ∧ But r m m' := by
  obtain ⟨l, e⟩ := s
  rw [ans_none rfl, C65]
  unfold numS
  by_cases he : e = 0
  · subst he
    rw [if_pos rfl]
    exact J65 r 9 0 0 m l rfl (by decide) h
  · rw [if_neg he]
    refine ⟨m, ?_, h, But.refl _ _⟩
    rw [J65_4_eq, callW_ret (S86e r l e he m h)]
    rfl
end Go.Ab

/- What wire.In reads: numbers with signs, flags, texts. -/
namespace Go.Ab
open Go

def unzZ (n : Nat) : Int := if n % 2 = 0 then ((n / 2 : Nat) : Int) else -((n / 2 : Nat) : Int) - 1
theorem numR_lt : ∀ (k i n : Nat) (l : List UInt8), i + k = 9 → n < 128 ^ i → (numR (k + 1) i n l).1 < 18446744073709551616 := by
  intro k
  induction k with
  | zero =>
    intro i n l hi hn
    cases l with
    | nil =>
      show 0 < 18446744073709551616
      omega
    | cons c l =>
      by_cases hb : badAt i c
      · rw [numR_bad hb]
        show 0 < 18446744073709551616
        omega
      · have hc : c.toNat < 128 := Nat.lt_of_not_le fun hh => hb (.inl ⟨by omega, by omega⟩)
        rw [numR_end hb hc]
        exact (num_fits (by omega) hn fun hh => hb (.inl hh)).1
  | succ k ih =>
    intro i n l hi hn
    cases l with
    | nil =>
      show 0 < 18446744073709551616
      omega
    | cons c l =>
      by_cases hb : badAt i c
      · rw [numR_bad hb]
        show 0 < 18446744073709551616
        omega
      · have hf := num_fits (i := i) (n := n) (c := c) (by omega) hn fun hh => hb (.inl hh)
        by_cases hc : c.toNat < 128
        · rw [numR_end hb hc]
          exact hf.1
        · rw [numR_more hb hc]
          exact ih (i + 1) _ l (by omega) (hf.2 (by omega))
theorem numS_lt (s : St) : (numS s).1 < 18446744073709551616 := by
  unfold numS
  split
  · exact numR_lt 9 0 0 s.1 rfl (by decide)
  · show 0 < 18446744073709551616
    omega
/-! ### With a sign -/
theorem unz_bits {n : Nat} (hn : n < 18446744073709551616) :
    aarith .shr .u64 (mkI .u64 (n : Int)) (mkI .u64 1) = some ((n / 2 : Nat) : Int) ∧ IntKind.i64.wrap ((n / 2 : Nat) : Int) = ((n / 2 : Nat) : Int) ∧
    aarith .and .u64 (mkI .u64 (n : Int)) (mkI .u64 1) = some ((n % 2 : Nat) : Int) ∧ IntKind.i64.wrap ((n % 2 : Nat) : Int) = ((n % 2 : Nat) : Int) ∧
    aneg .i64 (mkI .i64 ((n % 2 : Nat) : Int)) = some (-((n % 2 : Nat) : Int)) ∧ aarith .xor .i64 (mkI .i64 ((n / 2 : Nat) : Int)) (mkI .i64 (-((n % 2 : Nat) : Int))) = some (unzZ n) := by
  refine ⟨?_, in_i64 (by omega), ?_, in_i64 (by omega), ?_, ?_⟩
  · rw [ar_shr _ _ _ _ (by omega)]
    have : (2 : Int) ^ min (1 : Int).toNat IntKind.u64.bits = 2 := by decide
    rw [this, Int.fdiv_eq_ediv_of_nonneg _ (by omega)]
    exact congrArg some (by omega)
  · rw [ar_and]
    have h64 : IntKind.u64.bits = 64 := rfl
    have e1 : (BitVec.ofInt 64 (n : Int)).toNat = n := by
      rw [BitVec.toNat_ofInt]
      omega
    have e2 : (BitVec.ofInt 64 1).toNat = 1 := by decide
    rw [h64, BitVec.toNat_and, e1, e2, Nat.and_one_is_mod, in_u64 (by omega)]
  · simp only [aneg, decide_true, cond_true]
    rw [in_i64 (by omega)]
    exact congrArg some (by omega)
  · rw [ar_xor]
    have h64 : IntKind.i64.bits = 64 := rfl
    rw [h64]
    unfold unzZ
    rcases Nat.mod_two_eq_zero_or_one n with h | h
    · have e : -((0 : Nat) : Int) = 0 := rfl
      rw [h, if_pos rfl, e, xor_zero, BitVec.toNat_ofInt, in_i64 (by omega)]
      exact congrArg some (by omega)
    · have e : BitVec.ofInt 64 (-((1 : Nat) : Int)) = BitVec.ofInt 64 18446744073709551615 := by
        apply BitVec.eq_of_toNat_eq
        rw [BitVec.toNat_ofInt, BitVec.toNat_ofInt]
        omega
      rw [h, if_neg (by omega), e, xor_ones, BitVec.toNat_ofInt, wrap_i64]
      exact congrArg some (by omega)
def intS (s : St) : Int × St := (unzZ (numS s).1, (numS s).2)
theorem S62 (r : Nat) (s : St) (m : Mem) (h : InR m r s.1 s.2) :
    ∃ m', ans E 62 [.c (.ref r 0 0 0)] m = some (.ret (mkI .i64 (intS s).1), m') ∧ InR m' r (intS s).2.1 (intS s).2.2 ∧ But r m m' := by
  obtain ⟨m', h1, h2, h3⟩ := S65 r s m h
  obtain ⟨a1, a2, a3, a4, a5, a6⟩ := unz_bits (numS_lt s)
  unfold intS
  generalize numS s = t at *
  refine ⟨m', ?_, h2, h3⟩
  rw [ans_none rfl, C62, callW_ret h1]
  rw [asK_I, Option.bind_some, a1, Option.bind_some, conv_I, a2, Option.bind_some, a3, Option.bind_some, conv_I, a4, Option.bind_some, a5, Option.bind_some, a6, Option.bind_some]
/-! ### Flags -/
def flagS (s : St) : Bool × St := if s.2 = 0 then match s.1 with
  | [] => (false, [], 20)
  | c :: l => if 1 < c.toNat then (false, [], 21) else (decide (c.toNat = 1), l, 0) else (false, s)
theorem S63 (r : Nat) (s : St) (m : Mem) (h : InR m r s.1 s.2) :
    ∃ m', ans E 63 [.c (.ref r 0 0 0)] m = some (.ret (mkB (flagS s).1), m') ∧ InR m' r (flagS s).2.1 (flagS s).2.2 ∧ But r m m' := by
  obtain ⟨l, e⟩ := s
  rw [ans_none rfl, C63]
  unfold flagS
  by_cases he : e = 0
  · subst he
    rw [if_pos rfl]
    obtain ⟨m1, h1, h2, h3⟩ := S86 r l m h
    rw [callW_ret h1]
    cases l with
    | nil => exact ⟨m1, rfl, h2, h3⟩
    | cons c l =>
      have hA2 : acmp .no .gtr (mkI .u8 (c.toNat : Int)) (mkI .u8 1) = some (decide (1 < c.toNat)) := by rw [cmp_gtr]; exact congrArg some (by rw [decide_eq_decide]; omega)
      have hA4 : acmp .no .eql (mkI .u8 (c.toNat : Int)) (mkI .u8 1) = some (decide (c.toNat = 1)) := by rw [cmp_eql]; exact congrArg some (by rw [decide_eq_decide]; omega)
      simp only [aext_0, aext_1, Option.bind_some, asK_I, asB_B, cond_true, hA2, hA4]
      by_cases hc : 1 < c.toNat
      · obtain ⟨m2, h4, h5, h6⟩ := S87 r _ _ 21 m1 h2
        refine ⟨m2, ?_, by rw [if_pos hc]; exact h5, h3.trans h6⟩
        rw [decide_eq_true hc, cond_true, if_pos hc]
        exact callW_ret h4
      · refine ⟨m1, ?_, by rw [if_neg hc]; exact h2, h3⟩
        rw [decide_eq_false hc, cond_false, if_neg hc]
  · rw [if_neg he]
    refine ⟨m, ?_, h, But.refl _ _⟩
    rw [callW_ret (S86e r l e he m h)]
    rfl
/-! ### Texts -/
theorem S88 (r n : Nat) (l : List UInt8) (m : Mem) (h : InR m r l 0) :
    ∃ x m', ans E 88 [.c (.ref r 0 0 0), tI n] m = some (.ret (.e (.c x)), m') ∧ But r m m' ∧ (if l.length < n then x = .tsl [] ∧ InR m' r [] 20 else SV m' x (l.take n) ∧ InR m' r (l.drop n) 0) := by
  have hh := h
  obtain ⟨x, h1, h2, h3⟩ := h
  have l0 := ld (off := 0) h1 rfl
  have l1 := ld (off := 1) h1 rfl
  rw [ans_none rfl, C88]
  by_cases hn : l.length < n
  · obtain ⟨m', h4, h5, h6⟩ := S87 r l 0 20 m hh
    refine ⟨.tsl [], m', ?_, h6, by rw [if_pos hn]; exact ⟨rfl, h5⟩⟩
    have hn' : (l.length : Int) < (n : Int) := by omega
    simp only [cmpP_ref, anil_ref, afield_ref, Nat.zero_add, Option.bind_some, cond_false, l0, l1, asK_I, cmp_neq, decide_true, Bool.not_true, h2.pc, h2.len, cmp_gtr, hn', cond_true]
    exact callW_ret h4
  · have hn' : ¬ (l.length : Int) < (n : Int) := by omega
    obtain ⟨y, hy, hy2, hy3⟩ := h2.take (n := n) (by omega)
    obtain ⟨z, hz, hz2, hz3⟩ := h2.drop (n := n) (by omega)
    have s1 := st (off := 0) h1 (by simp) z
    refine ⟨y, m.set r ⟨0, 2, 119, true, [[x, .p (.c (.int .i64 0))].set 0 z]⟩, ?_, but_set _ _ _, ?_⟩
    · simp only [cmpP_ref, anil_ref, afield_ref, Nat.zero_add, Option.bind_some, cond_false, l0, l1, asK_I, cmp_neq, decide_true, Bool.not_true, h2.pc, h2.len, cmp_gtr, hn', decide_false, hy, hz, s1]
    · rw [if_neg hn]
      exact ⟨hy2.keep fun id hid => set_ne (by omega), z, set_get h1, hz2.keep fun id hid => set_ne (by omega), by omega⟩
def textS (s : St) : ByteArray × St :=
  if (numS s).2.2 = 0 then (if 1100 < (numS s).1 then (⟨#[]⟩, [], 2) else if (numS s).2.1.length < (numS s).1 then (⟨#[]⟩, [], 20) else (⟨((numS s).2.1.take (numS s).1).toArray⟩, (numS s).2.1.drop (numS s).1, 0)) else (⟨#[]⟩, (numS s).2)
theorem S64 (r : Nat) (s : St) (m : Mem) (h : InR m r s.1 s.2) :
    ∃ m', ans E 64 [.c (.ref r 0 0 0), tI 1100] m = some (.ret (mkS (textS s).1), m') ∧ InR m' r (textS s).2.1 (textS s).2.2 ∧ But r m m' := by
  obtain ⟨m1, h1, h2, h3⟩ := S65 r s m h
  have hlt := numS_lt s
  rw [ans_none rfl, C64, callW_ret h1]
  unfold textS
  generalize numS s = t at *
  obtain ⟨n, l, e⟩ := t
  simp only at *
  have hh := h2
  obtain ⟨x, g1, g2, g3⟩ := h2
  have l1 := ld (off := 1) g1 rfl
  by_cases he : e = 0
  · subst he
    rw [if_pos rfl]
    have hmx : amaxI .i64 [mkI .i64 1100, mkI .i64 0] = some 1100 := rfl
    have hw : IntKind.u64.wrap 1100 = 1100 := in_u64 (by omega)
    have hA : acmp .no .gtr (mkI .u64 (n : Int)) (mkI .u64 1100) = some (decide (1100 < n)) := by rw [cmp_gtr]; exact congrArg some (by rw [decide_eq_decide]; omega)
    simp only [asK_I, Option.bind_some, cmpP_ref, cond_false, anil_ref, afield_ref, Nat.zero_add, l1, cmp_neq, decide_true, Bool.not_true, hmx, conv_I, hw, hA]
    by_cases hbig : 1100 < n
    · obtain ⟨m2, h4, h5, h6⟩ := S87 r l 0 2 m1 hh
      refine ⟨m2, ?_, by rw [if_pos hbig]; exact h5, h3.trans h6⟩
      rw [decide_eq_true hbig, cond_true, if_pos hbig]
      exact callW_ret h4
    · have hw2 : IntKind.i64.wrap (n : Int) = (n : Int) := in_i64 (by omega)
      obtain ⟨y, m2, h4, h5, h6⟩ := S88 r n l m1 hh
      refine ⟨m2, ?_, ?_, h3.trans h5⟩
      · rw [decide_eq_false hbig, cond_false, hw2, callW_ret h4, if_neg hbig]
        by_cases hs : l.length < n
        · rw [if_pos hs] at h6 ⊢
          obtain ⟨rfl, _⟩ := h6
          rfl
        · rw [if_neg hs] at h6 ⊢
          simp only [asE_E, Option.bind_some, h6.1.bytes]
      · rw [if_neg hbig]
        by_cases hs : l.length < n
        · rw [if_pos hs] at h6 ⊢
          exact h6.2
        · rw [if_neg hs] at h6 ⊢
          exact h6.2
  · rw [if_neg he]
    refine ⟨m1, ?_, hh, h3⟩
    simp only [asK_I, Option.bind_some, cmpP_ref, cond_false, anil_ref, afield_ref, Nat.zero_add, l1, cmp_neq, he, decide_false, Bool.not_false, cond_true]
def endS (s : St) : Bool := decide (s.2 = 0) && decide (s.1 = [])
theorem S66 (r : Nat) (s : St) (m : Mem) (h : InR m r s.1 s.2) : ans E 66 [.c (.ref r 0 0 0)] m = some (.ret (mkB (endS s)), m) := by
  obtain ⟨l, e⟩ := s
  obtain ⟨x, h1, h2, h3⟩ := h
  have l0 := ld (off := 0) h1 rfl
  have l1 := ld (off := 1) h1 rfl
  rw [ans_none rfl, C66]
  unfold endS
  by_cases he : e = 0
  · have hl : decide ((l.length : Int) = 0) = decide (l = []) := by
      rw [decide_eq_decide]
      cases l <;> simp
      omega
    simp only [cmpP_nref, anil_ref, afield_ref, Nat.zero_add, Option.bind_some, cond_true, l0, l1, asK_I, cmp_eql, he, decide_true, h2.pc, h2.len, cond_false, hl, Bool.true_and]
  · simp only [cmpP_nref, anil_ref, afield_ref, Nat.zero_add, Option.bind_some, cond_true, l1, asK_I, cmp_eql, he, decide_false, cond_false, Bool.false_and]
theorem S61 (l : List UInt8) (hl : l.length ≤ roomB) (m : Mem) :
    ∃ r m', ans E 61 [.c (.p (.sl (l.map encP)))] m = some (.ret (.e (.c (.ref r 0 0 0))), m') ∧ InR m' r l 0 ∧ Kept m.length m m' ∧ m.length ≤ r ∧ m'.length = r + 1 := by
  have hel : elems (.e (.c (.p (.sl (l.map encP))))) m = some (l.map encU) := by
    show some (up (l.map encP)) = _
    rw [up_encP]
  obtain ⟨x, m1, hap, ho, hk, hle⟩ := (NewB.nil m.length m).app (Nat.le_refl _) (Kept.refl _ _) hel (by simpa using hl)
  rw [List.nil_append] at ho
  refine ⟨m1.length, m1 ++ [boxObj 119 [x, .p (.c (.int .i64 0))]], ?_, ⟨x, by simp [boxObj], ?_, ?_⟩, fun id hid => ?_, hle, by simp⟩
  · rw [ans_none rfl, C61]
    simp only [hap, Option.bind_some]
    rfl
  · have h2 : LS 5 1 (m1 ++ [boxObj 119 [x, .p (.c (.int .i64 0))]]) x (l.map encU) := ho.1.keep fun id hid => List.getElem?_append_left (ho.1.lt id hid)
    rcases h2 with ⟨rfl, h0⟩ | ⟨id, ver, o, rfl, h3, h4, h5, _⟩
    · exact .inl ⟨.inl rfl, by simpa using h0⟩
    · refine .inr ⟨id, ver, 0, o, by simp, h3, h5, by simp [h4], by rw [h4, List.drop_zero]; exact List.take_of_length_le (by simp)⟩
  · have := ho.1.lt
    cases hid : idOf (.e (.c x)) with
    | zero => omega
    | succ k =>
      have := this k (by rw [hid])
      omega
  · rw [List.getElem?_append_left (by omega), hk id hid]
end Go.Ab

/- op.Unpack. -/
namespace Go.Ab
open Go

theorem ld5 {m : Mem} {id : Nat} {cs : List CV} (h : m[id]? = some ⟨0, 5, 37, true, [cs]⟩) (hl : cs.length = 5) : aload 5 true (.e (.c (.ref id 0 0 0))) m = some (.a cs) := by
  have ht : List.take 5 cs = cs := List.take_of_length_le (by omega)
  simp [aload_ref, Mem.at?, h, pick, hl, ht]
theorem st5 {m : Mem} {id : Nat} {cs cs' : List CV} (h : m[id]? = some ⟨0, 5, 37, true, [cs]⟩) (hl : cs.length = 5) (hl' : cs'.length = 5) : astore 5 (.e (.c (.ref id 0 0 0))) (.e (.a cs')) m = some (m.set id ⟨0, 5, 37, true, [cs']⟩) := by
  have hd : List.drop 5 cs = [] := List.drop_eq_nil_of_le (by omega)
  simp [astore, Mem.at?, h, updC, hl, hl', hd]
theorem frz_ls {ety k lo n : Nat} {m : Mem} {x : CV} {ps : List (List PV)} (h : LS ety k m x (up ps)) (hid : idOf (.e (.c x)) = 0 ∨ lo < idOf (.e (.c x))) : frzC m lo (n + 1) x = some (.sl ps) := by
  rcases h with ⟨rfl, he⟩ | ⟨id, ver, o, rfl, h2, h3, _⟩
  · have : ps = [] := by simpa using he
    subst this
    rfl
  · have hm : mapO (mapO (frzC m lo n)) (up ps) = some ps := by
      refine mapO_some ?_
      rw [List.map_map]
      exact List.map_congr_left fun e _ => mapO_frzC_p m lo n e
    have hlo : lo ≤ id := by simp at hid; omega
    have ht : List.take ps.length (up ps) = up ps := List.take_of_length_le (by simp)
    have hlen : (up ps).length = ps.length := by simp
    have hlen2 : ps.length ≤ (up ps).length := by omega
    simp only [frzC, h2]
    rw [hlen]
    simp only [Nat.zero_add, List.drop_zero, hlo, hlen2, decide_true, Bool.and_self, cond_true, h3, ht, hm]
def rcells (c : Int) (d : Bool) (z : Int) (t : ByteArray) (x : CV) : List CV := [.p (.c (.int .i64 c)), .p (.c (.bool d)), .p (.c (.int .i64 z)), .p (.c (.string t)), x]
abbrev zcells : List CV := rcells 0 false 0 ⟨#[]⟩ (.tsl [])
/-- Texts, so many. -/
def readN : Nat → St → List ByteArray × St
  | 0, s => ([], s)
  | k + 1, s => ((textS s).1 :: (readN k (textS s).2).1, (readN k (textS s).2).2)
def zeroR : RS := ⟨0, false, 0, ⟨#[]⟩, []⟩
def unpackZ (b : List UInt8) : Option RS :=
  let c := intS (b, 0)
  let d := flagS c.2
  let z := intS d.2
  let t := textS z.2
  let n := numS t.2
  if 512 < n.1 then none else if endS (readN n.1 n.2).2 = true then some ⟨c.1, d.1, z.1, t.1, (readN n.1 n.2).1⟩ else none
/-- The result's box at q holds what was read. -/
def BoxR (m : Mem) (q : Nat) (c : Int) (d : Bool) (z : Int) (t : ByteArray) (ns : List ByteArray) : Prop :=
  ∃ x, m[q]? = some ⟨0, 5, 37, true, [rcells c d z t x]⟩ ∧ LS 9 1 m x (up (ns.map encS)) ∧ (idOf (.e (.c x)) = 0 ∨ q + 1 < idOf (.e (.c x)))
theorem BoxR.but {m m' : Mem} {q r : Nat} {c z : Int} {d : Bool} {t : ByteArray} {ns : List ByteArray} (h : BoxR m q c d z t ns) (hb : But r m m') (hr : r < q) : BoxR m' q c d z t ns := by
  obtain ⟨x, h1, h2, h3⟩ := h
  exact ⟨x, (hb.2 q (by omega)).trans h1, h2.keep fun id hid => hb.2 id (by omega), h3⟩
theorem BoxR.lt {m : Mem} {q : Nat} {c z : Int} {d : Bool} {t : ByteArray} {ns : List ByteArray} (h : BoxR m q c d z t ns) : q < m.length := by
  obtain ⟨x, h1, _⟩ := h
  exact (List.getElem?_eq_some_iff.1 h1).1
theorem but_kept {r : Nat} {m m' : Mem} (h : But r m m') : Kept r m m' := fun id hid => h.2 id (by omega)
/-- A name more. -/
theorem BoxR.push {m m2 : Mem} {q : Nat} {c z : Int} {d : Bool} {t s : ByteArray} {ns : List ByteArray} (h : BoxR m q c d z t ns) (hm : m2.length = m.length) (hq : m2[q]? = m[q]?) (hx : ∀ id, q < id → m2[id]? = m[id]?) (hl : ns.length ≤ 1000) :
    ∃ x, aload 1 false (.e (.c (.ref q 0 0 4))) m = some (.c x) ∧ (idOf (.e (.c x)) = 0 ∨ m2[idOf (.e (.c x)) - 1]? = m[idOf (.e (.c x)) - 1]?) ∧ ∃ x' m3, aappend 9 1 16 (.e (.c x)) (.e (.c (.oref m2.length 0 0 1))) (m2 ++ [⟨0, 1, 9, true, [[.p (.c (.string s))]]⟩]) = some (x', m3) ∧
      ∃ m4, astore 1 (.e (.c (.ref q 0 0 4))) (.e (.c x')) m3 = some m4 ∧ BoxR m4 q c d z t (ns ++ [s]) ∧ Kept q m2 m4 := by
  obtain ⟨x, h1, h2, h3⟩ := h
  have hqlt : q < m.length := (List.getElem?_eq_some_iff.1 h1).1
  have hx2 : LS 9 1 m2 x (up (ns.map encS)) := h2.keep fun id hid => hx id (by omega)
  have hx3 : LS 9 1 (m2 ++ [⟨0, 1, 9, true, [[.p (.c (.string s))]]⟩]) x (up (ns.map encS)) := hx2.keep fun id hid => List.getElem?_append_left (hx2.lt id hid)
  have hel : elems (.e (.c (.oref m2.length 0 0 1))) (m2 ++ [⟨0, 1, 9, true, [[.p (.c (.string s))]]⟩]) = some (up ([s].map encS)) := by
    simp [elems, at?_app, up, encS]
  obtain ⟨x', m3, hap, hl3, hle, hk, hid⟩ := hx3.append (bytes := 16) hel (by simp [allLen, encS]) (by unfold roomB; simp; omega)
  have hq3 : m3[q]? = some ⟨0, 5, 37, true, [rcells c d z t x]⟩ := by
    rw [hk q (by simp; omega) (by omega), List.getElem?_append_left (by omega), hq, h1]
  have hld := ld (off := 4) h1 rfl
  have hst := st (off := 4) hq3 (by simp [rcells]) x'
  refine ⟨x, hld, ?_, x', m3, hap, _, hst, ⟨x', set_get hq3, ?_, ?_⟩, ?_⟩
  · rcases h3 with h3 | h3
    · exact .inl h3
    · exact .inr (hx _ (by omega))
  · have : up ((ns ++ [s]).map encS) = up (ns.map encS) ++ up ([s].map encS) := by simp
    rw [this]
    refine hl3.keep fun id hid2 => set_ne ?_
    have hlen : (m2 ++ [⟨0, 1, 9, true, [[.p (.c (.string s))]]⟩] : Mem).length = m.length + 1 := by simp [hm]
    omega
  · have hlen : (m2 ++ [⟨0, 1, 9, true, [[.p (.c (.string s))]]⟩] : Mem).length = m.length + 1 := by simp [hm]
    omega
  · intro id hid2
    rw [set_ne (by omega), hk id (by simp; omega) (by omega), List.getElem?_append_left (by omega)]
/-- The results' box. -/
def BoxN (m : Mem) : Prop := ∃ cs, cs.length = 5 ∧ m[0]? = some ⟨0, 5, 37, true, [cs]⟩
theorem frz_rcells {m : Mem} {c : Int} {d : Bool} {z : Int} {t : ByteArray} {x : CV} {ns : List ByteArray} (h : LS 9 1 m x (up (ns.map encS))) : frzE m 0 false (.a (rcells c d z t x)) = some (tR ⟨c, d, z, t, ns⟩) := by
  have hf := frz_ls (lo := 0) (n := 2) h (by omega)
  simp [frzE, frzCs, rcells, RS.cells, hf]
theorem J23 (r q : Nat) (hr : 0 < r) (hq : r < q) (n : Nat) (hn : n ≤ 512) (c : Int) (d : Bool) (z : Int) (t : ByteArray) : ∀ (k i : Nat) (m : Mem) (s : St) (ns : List ByteArray), i + k = n → ns.length = i → InR m r s.1 s.2 → BoxR m q c d z t ns → BoxN m →
    (J23_10 (.c (.ref 0 0 0 0)) (.c (.ref r 0 0 0)) (.c (.ref q 0 0 0)) n i m).bind frz0 = some (.ret (if endS (readN k s).2 = true then .t [tR ⟨c, d, z, t, ns ++ (readN k s).1⟩, tI 0] else .t [tR zeroR, tI 21]))
  | 0, i, m, s, ns, hi, hns, hin, hbox, ⟨cs, hcs, h0⟩ => by
    obtain rfl : i = n := by omega
    have h66 := S66 r s m hin
    have h66' := callR_ret (draw := false) (k := fun v12 => ((asB v12).bind fun b13 => ((anot (mkB b13)).bind fun b14 => (cond b14
 ((afill [.p (.c (.int .i64 0)), .p (.c (.bool false)), .p (.c (.int .i64 0)), .p (.c (.string ⟨#[]⟩)), .tsl []] []).bind fun cs15 => ((astore 5 (.e (.c (.ref 0 0 0 0))) (.e (.a (cs15))) m).bind fun m16 => ((aload 5 true (.e (.c (.ref 0 0 0 0))) m16).bind fun r17 => (some (.ret (.t [r17, .c (.p (.c (.int .i64 21)))]), m16) : Option Out))))
 ((aload 5 true (.e (.c (.ref q 0 0 0))) m).bind fun v18 => ((astore 5 (.e (.c (.ref 0 0 0 0))) (.e v18) m).bind fun m19 => ((aload 5 true (.e (.c (.ref 0 0 0 0))) m19).bind fun r20 => (some (.ret (.t [r20, .c (.p (.c (.int .i64 0)))]), m19))))))))) h66 (List.prefix_refl _) (by rfl)
    rw [J23_10_eq]
    simp only [cmp_lss, Int.lt_irrefl, decide_false, Option.bind_some, cond_false]
    rw [h66']
    show _ = some (IRes.ret (if endS s = true then _ else _))
    cases he : endS s with
    | false =>
      have hs5 := st5 (cs' := zcells) h0 hcs rfl
      have hl5 := ld5 (set_get (o' := ⟨0, 5, 37, true, [zcells]⟩) h0) rfl
      have hfz := frz_rcells (m := m.set 0 ⟨0, 5, 37, true, [zcells]⟩) (c := 0) (d := false) (z := 0) (t := ⟨#[]⟩) (x := .tsl []) (ns := []) LS.nil
      have hfill : afill [.p (.c (.int .i64 0)), .p (.c (.bool false)), .p (.c (.int .i64 0)), .p (.c (.string ⟨#[]⟩)), .tsl []] [] = some zcells := rfl
      simp only [asB_B, anot_B, Bool.not_false, cond_true, Option.bind_some, hfill, hs5, hl5, frz0_ret, frzT_t, mapO_cons, mapO_nil, hfz, frzE_c]
      rfl
    | true =>
      obtain ⟨x, h1, h2, h3⟩ := hbox
      have hlq := ld5 h1 rfl
      have hs5 := st5 (cs' := rcells c d z t x) h0 hcs rfl
      have hl5 := ld5 (set_get (o' := ⟨0, 5, 37, true, [rcells c d z t x]⟩) h0) rfl
      have h2' : LS 9 1 (m.set 0 ⟨0, 5, 37, true, [rcells c d z t x]⟩) x (up (ns.map encS)) := h2.keep fun id hid => set_ne (by omega)
      have hfz := frz_rcells (c := c) (d := d) (z := z) (t := t) h2'
      simp only [asB_B, anot_B, Bool.not_true, cond_false, Option.bind_some, hlq, hs5, hl5, frz0_ret, frzT_t, mapO_cons, mapO_nil, hfz, frzE_c]
      simp [readN]
  | k + 1, i, m, s, ns, hi, hns, hin, hbox, hn0 => by
    have hlt : (i : Int) < (n : Int) := by omega
    have e1 : IntKind.u64.wrap ((i : Int) + 1) = (i : Int) + 1 := in_u64 (by omega)
    obtain ⟨m2, h1, h2, h3⟩ := S64 r s m hin
    have hqlt := hbox.lt
    obtain ⟨x, a1, a2, x', m3, a3, m4, a4, a5, a6⟩ := hbox.push (s := (textS s).1) h3.1 (h3.2 q (by omega)) (fun id hid => h3.2 id (by omega)) (by omega)
    have hn2 : BoxN m4 := by
      obtain ⟨cs, hcs, h0⟩ := hn0
      exact ⟨cs, hcs, by rw [a6 0 (by omega), h3.2 0 (by omega), h0]⟩
    have hin4 : InR m4 r (textS s).2.1 (textS s).2.2 := h2.keep (a6.mono (by omega))
    have ih := J23 r q hr hq n hn c d z t k (i + 1) m4 (textS s).2 (ns ++ [(textS s).1]) (by omega) (by simp; omega) hin4 a5 hn2
    have hfs : afillS 1 (List.replicate 1 [.p (.c (.string ⟨#[]⟩))]) [(0, mkS (textS s).1)] = some [[.p (.c (.string (textS s).1))]] := rfl
    rw [J23_10_eq]
    simp only [cmp_lss, hlt, decide_true, Option.bind_some, cond_true, afield_ref, Nat.zero_add, a1]
    rw [callW_ret h1]
    simp only [asS_S, Option.bind_some, hfs, a3, a4]
    rw [conK_ok]
    · simp only [ar_add, e1, Option.bind_some]
      push_cast at ih
      rw [ih]
      simp [readN, List.append_assoc]
      rfl
    · intro cn hcn
      simp only [List.mem_singleton] at hcn
      subst hcn
      exact .inr (h3.2 q (by omega)).symm
def unpackT (b : List UInt8) : TV := match unpackZ b with
  | some r => .t [tR r, tI 0]
  | none => .t [tR zeroR, tI 21]
theorem S23 (b : List UInt8) (hb : b.length ≤ roomB) : ansI E 23 [.c (.p (.sl (b.map encP)))] = some (.ret (unpackT b)) := by
  obtain ⟨r, m2, r0, i0, k0, g0, g1⟩ := S61 b hb [boxObj 37 zcells]
  have g0' : 1 ≤ r := g0
  have n0 : BoxN m2 := ⟨zcells, rfl, (k0 0 (by simp)).trans rfl⟩
  obtain ⟨m3, r1, i1, k1⟩ := S62 r (b, 0) m2 i0
  unfold unpackT unpackZ
  dsimp only
  generalize intS (b, 0) = c at *
  have hlen3 : m3.length = r + 1 := by rw [k1.1, g1]
  have n1 : BoxN m3 := by
    obtain ⟨cs, hcs, h⟩ := n0
    exact ⟨cs, hcs, (k1.2 0 (by omega)).trans h⟩
  have hfill : afill [.p (.c (.int .i64 0)), .p (.c (.bool false)), .p (.c (.int .i64 0)), .p (.c (.string ⟨#[]⟩)), .tsl []] [(0, 1, mkI .i64 c.1)] = some (rcells c.1 false 0 ⟨#[]⟩ (.tsl [])) := rfl
  have hq4 : (m3 ++ [boxObj 37 zcells])[r + 1]? = some ⟨0, 5, 37, true, [zcells]⟩ := by
    rw [← hlen3]
    simp [boxObj, rcells]
  have st4 := st5 (cs' := rcells c.1 false 0 ⟨#[]⟩ (.tsl [])) hq4 rfl rfl
  have kp4 : Kept (r + 1) m3 ((m3 ++ [boxObj 37 zcells]).set (r + 1) ⟨0, 5, 37, true, [rcells c.1 false 0 ⟨#[]⟩ (.tsl [])]⟩) := by
    intro id hid
    rw [set_ne (by omega), List.getElem?_append_left (by omega)]
  have b4 := set_get (o' := ⟨0, 5, 37, true, [rcells c.1 false 0 ⟨#[]⟩ (.tsl [])]⟩) hq4
  have i4 := i1.keep kp4
  generalize (m3 ++ [boxObj 37 zcells]).set (r + 1) ⟨0, 5, 37, true, [rcells c.1 false 0 ⟨#[]⟩ (.tsl [])]⟩ = m4 at *
  have n4 : BoxN m4 := by
    obtain ⟨cs, hcs, h⟩ := n1
    exact ⟨cs, hcs, (kp4 0 (by omega)).trans h⟩
  obtain ⟨m5, r5, i5, k5⟩ := S63 r c.2 m4 i4
  generalize flagS c.2 = d at *
  have b5 := (k5.2 (r + 1) (by omega)).trans b4
  have st5' := st (off := 1) b5 (by simp [rcells]) (.p (.c (.bool d.1)))
  have kp5 : Kept (r + 1) m5 (m5.set (r + 1) ⟨0, 5, 37, true, [(rcells c.1 false 0 ⟨#[]⟩ (.tsl [])).set 1 (.p (.c (.bool d.1)))]⟩) := fun id hid => set_ne (by omega)
  have b6 := set_get (o' := ⟨0, 5, 37, true, [(rcells c.1 false 0 ⟨#[]⟩ (.tsl [])).set 1 (.p (.c (.bool d.1)))]⟩) b5
  have i6 := i5.keep kp5
  generalize m5.set (r + 1) ⟨0, 5, 37, true, [(rcells c.1 false 0 ⟨#[]⟩ (.tsl [])).set 1 (.p (.c (.bool d.1)))]⟩ = m6 at *
  obtain ⟨m7, r7, i7, k7⟩ := S62 r d.2 m6 i6
  generalize intS d.2 = z at *
  have b7 := (k7.2 (r + 1) (by omega)).trans b6
  have st7 := st (off := 2) b7 (by simp [rcells]) (.p (.c (.int .i64 z.1)))
  have kp7 : Kept (r + 1) m7 (m7.set (r + 1) ⟨0, 5, 37, true, [((rcells c.1 false 0 ⟨#[]⟩ (.tsl [])).set 1 (.p (.c (.bool d.1)))).set 2 (.p (.c (.int .i64 z.1)))]⟩) := fun id hid => set_ne (by omega)
  have b8 := set_get (o' := ⟨0, 5, 37, true, [((rcells c.1 false 0 ⟨#[]⟩ (.tsl [])).set 1 (.p (.c (.bool d.1)))).set 2 (.p (.c (.int .i64 z.1)))]⟩) b7
  have i8 := i7.keep kp7
  generalize m7.set (r + 1) ⟨0, 5, 37, true, [((rcells c.1 false 0 ⟨#[]⟩ (.tsl [])).set 1 (.p (.c (.bool d.1)))).set 2 (.p (.c (.int .i64 z.1)))]⟩ = m8 at *
  obtain ⟨m9, r9, i9, k9⟩ := S64 r z.2 m8 i8
  generalize textS z.2 = t at *
  have b9 := (k9.2 (r + 1) (by omega)).trans b8
  have st9 := st (off := 3) b9 (by simp [rcells]) (.p (.c (.string t.1)))
  have kp9 : Kept (r + 1) m9 (m9.set (r + 1) ⟨0, 5, 37, true, [(((rcells c.1 false 0 ⟨#[]⟩ (.tsl [])).set 1 (.p (.c (.bool d.1)))).set 2 (.p (.c (.int .i64 z.1)))).set 3 (.p (.c (.string t.1)))]⟩) := fun id hid => set_ne (by omega)
  have b10 := set_get (o' := ⟨0, 5, 37, true, [(((rcells c.1 false 0 ⟨#[]⟩ (.tsl [])).set 1 (.p (.c (.bool d.1)))).set 2 (.p (.c (.int .i64 z.1)))).set 3 (.p (.c (.string t.1)))]⟩) b9
  have i10 := i9.keep kp9
  generalize m9.set (r + 1) ⟨0, 5, 37, true, [(((rcells c.1 false 0 ⟨#[]⟩ (.tsl [])).set 1 (.p (.c (.bool d.1)))).set 2 (.p (.c (.int .i64 z.1)))).set 3 (.p (.c (.string t.1)))]⟩ = m10 at *
  obtain ⟨m11, r11, i11, k11⟩ := S65 r t.2 m10 i10
  generalize numS t.2 = n at *
  have b11 : BoxR m11 (r + 1) c.1 d.1 z.1 t.1 [] := ⟨.tsl [], (k11.2 (r + 1) (by omega)).trans b10, LS.nil, .inl rfl⟩
  have n11 : BoxN m11 := by
    obtain ⟨cs, hcs, h⟩ := n4
    refine ⟨cs, hcs, ?_⟩
    rw [k11.2 0 (by omega), kp9 0 (by omega), k9.2 0 (by omega), kp7 0 (by omega), k7.2 0 (by omega), kp5 0 (by omega), k5.2 0 (by omega)]
    exact h
  rw [ansI_none rfl, C23]
  have hz : ([] ++ [boxObj 37 [.p (.c (.int .i64 0)), .p (.c (.bool false)), .p (.c (.int .i64 0)), .p (.c (.string ⟨#[]⟩)), .tsl []]] : Mem) = [boxObj 37 zcells] := rfl
  rw [hz, callW_ret r0]
  simp only [asE_E, Option.bind_some]
  rw [callW_ret r1]
  have hz2 : boxObj 37 [.p (.c (.int .i64 0)), .p (.c (.bool false)), .p (.c (.int .i64 0)), .p (.c (.string ⟨#[]⟩)), .tsl []] = boxObj 37 zcells := rfl
  simp only [asK_I, Option.bind_some, hfill, hz2, hlen3, st4]
  rw [callW_ret r5]
  simp only [asB_B, Option.bind_some, afield_ref, Nat.zero_add, st5']
  rw [callW_ret r7]
  simp only [asK_I, Option.bind_some, st7]
  rw [callW_ret r9]
  simp only [asS_S, Option.bind_some, st9]
  rw [callW_ret r11]
  have hA : acmp .no .gtr (mkI .u64 (n.1 : Int)) (mkI .u64 512) = some (decide (512 < n.1)) := by rw [cmp_gtr]; exact congrArg some (by rw [decide_eq_decide]; omega)
  simp only [asK_I, Option.bind_some, hA]
  by_cases hbig : 512 < n.1
  · obtain ⟨cs, hcs, h0⟩ := n11
    have hs5 := st5 (cs' := zcells) h0 hcs rfl
    have hl5 := ld5 (set_get (o' := ⟨0, 5, 37, true, [zcells]⟩) h0) rfl
    have hfz := frz_rcells (m := m11.set 0 ⟨0, 5, 37, true, [zcells]⟩) (c := 0) (d := false) (z := 0) (t := ⟨#[]⟩) (x := .tsl []) (ns := []) LS.nil
    have hfill0 : afill [.p (.c (.int .i64 0)), .p (.c (.bool false)), .p (.c (.int .i64 0)), .p (.c (.string ⟨#[]⟩)), .tsl []] [] = some zcells := rfl
    rw [decide_eq_true hbig, cond_true, if_pos hbig]
    have hl0 : ([] : Mem).length = 0 := rfl
    simp only [Option.bind_some, hfill0, hl0, hs5, hl5, frz0_ret, frzT_t, mapO_cons, mapO_nil, hfz, frzE_c]
    rfl
  · rw [decide_eq_false hbig, cond_false, if_neg hbig]
    have hJ := J23 r (r + 1) (by omega) (by omega) n.1 (by omega) c.1 d.1 z.1 t.1 n.1 0 m11 n.2 [] (by omega) rfl i11 b11 n11
    have hJ' : (J23_10 (.c (.ref ([] : Mem).length 0 0 0)) (.c (.ref r 0 0 0)) (.c (.ref (r + 1) 0 0 0)) (n.1 : Int) 0 m11).bind frz0 = _ := hJ
    rw [hJ']
    split <;> simp_all
end Go.Ab

/- What the document's In reads. -/
namespace Go.Ab
open Go

abbrev icells (B : List UInt8) (at_ : Nat) (e : Int) : List CV := [.p (.sl (B.map encP)), .p (.c (.int .i64 (at_ : Int))), .p (.c (.int .i64 e))]
/-- The document's 'In' at r. -/
def RfR (m : Mem) (r : Nat) (B : List UInt8) (s : St) : Prop := ∃ a : Nat, m[r]? = some ⟨0, 3, 95, true, [icells B a s.2]⟩ ∧ a ≤ B.length ∧ B.drop a = s.1
theorem RfR.keep {m m' : Mem} {r : Nat} {B : List UInt8} {s : St} (h : RfR m r B s) (hk : m'[r]? = m[r]?) : RfR m' r B s := by
  obtain ⟨a, h1, h2⟩ := h
  exact ⟨a, hk.trans h1, h2⟩
theorem S89 (r : Nat) (B : List UInt8) (s : St) (c : Int) (m : Mem) (h : RfR m r B s) : ∃ m', ans E 89 [.c (.ref r 0 0 0), tI c] m = some (.ret (.t []), m') ∧ RfR m' r B ([], c) ∧ But r m m' := by
  obtain ⟨a, h1, h2, h3⟩ := h
  have s1 := st (off := 2) h1 (by simp) (.p (.c (.int .i64 c)))
  have h4 := set_get (o' := ⟨0, 3, 95, true, [icells B a c]⟩) h1
  have s1' : astore 1 (.e (.c (.ref r 0 0 2))) (mkI .i64 c) m = some (m.set r ⟨0, 3, 95, true, [icells B a c]⟩) := s1
  have l0 := ld (off := 0) h4 rfl
  have s2 := st (off := 1) h4 (by simp) (.p (.c (.int .i64 (B.length : Int))))
  refine ⟨_, ?_, ⟨B.length, set_get h4, Nat.le_refl _, by simp⟩, (but_set _ _ _).trans (but_set _ _ _)⟩
  rw [ans_none rfl, C89]
  simp only [anil_ref, afield_ref, Nat.zero_add, Option.bind_some, s1', l0, isPC_sl, cond_false, alen_sl, List.length_map]
  rw [s2]
  rfl
theorem S71 (r : Nat) (B : List UInt8) (hB : B.length ≤ roomB) (s : St) (m : Mem) (h : RfR m r B s) : ans E 71 [.c (.ref r 0 0 0)] m = some (.ret (mkI .i64 (s.1.length : Int)), m) := by
  obtain ⟨a, h1, h2, h3⟩ := h
  have l0 := ld (off := 0) h1 rfl
  have l1 := ld (off := 1) h1 rfl
  have hl : s.1.length = B.length - a := by rw [← h3]; simp
  have hroom : roomB = 140737488355328 := rfl
  have e1 : IntKind.i64.wrap ((B.length : Int) - (a : Int)) = (s.1.length : Int) := by
    rw [in_i64 (by omega)]
    omega
  rw [ans_none rfl, C71]
  simp only [anil_ref, afield_ref, Nat.zero_add, Option.bind_some, l0, l1, isPC_sl, cond_false, alen_sl, List.length_map, asK_I, ar_sub, e1]
/-- A byte is taken. -/
theorem RfR.take {m : Mem} {r : Nat} {B l : List UInt8} {c : UInt8} (hB : B.length ≤ roomB) (h : RfR m r B (c :: l, 0)) : ∃ a : Nat, a < B.length ∧ m[r]? = some ⟨0, 3, 95, true, [icells B a 0]⟩ ∧ aidx 1 (.e (.c (.p (.sl (B.map encP))))) (a : Int) m = some (.ip (encP c) 0) ∧
    IntKind.i64.wrap ((a : Int) + 1) = ((a + 1 : Nat) : Int) ∧ astore 1 (.e (.c (.ref r 0 0 1))) (mkI .i64 ((a + 1 : Nat) : Int)) m = some (m.set r ⟨0, 3, 95, true, [icells B (a + 1) 0]⟩) ∧ RfR (m.set r ⟨0, 3, 95, true, [icells B (a + 1) 0]⟩) r B (l, 0) := by
  obtain ⟨a, h1, h2, h3⟩ := h
  have hroom : roomB = 140737488355328 := rfl
  have hlt : a < B.length := by
    rcases Nat.lt_or_ge a B.length with hh | hh
    · exact hh
    · have h4 : B.drop a = [] := List.drop_eq_nil_of_le hh
      rw [h4] at h3
      cases h3
  rw [List.drop_eq_getElem_cons hlt] at h3
  injection h3 with h4 h5
  have hx : B[a]? = some c := by rw [List.getElem?_eq_getElem hlt, h4]
  refine ⟨a, hlt, h1, aidx_map (enc := encP) (k := 1) hx rfl, ?_, st (off := 1) h1 (by simp) (.p (.c (.int .i64 ((a + 1 : Nat) : Int)))), a + 1, set_get h1, hlt, h5⟩
  rw [in_i64 (by omega)]
  omega
theorem J70_nil (r i n : Nat) (B : List UInt8) (hB : B.length ≤ roomB) (m : Mem) (h : RfR m r B ([], 0)) (hi : i ≤ 9) : ∃ m', J70_5 (.c (.ref r 0 0 0)) n i m = some (.ret (mkI .u64 0), m') ∧ RfR m' r B ([], 20) ∧ But r m m' := by
  have hh := h
  obtain ⟨a, h1, h2, h3⟩ := h
  have ha : a = B.length := by
    have : (B.drop a).length = 0 := by rw [h3]; rfl
    simp at this
    omega
  have l0 := ld (off := 0) h1 rfl
  have l1 := ld (off := 1) h1 rfl
  obtain ⟨m', h4, h5, h6⟩ := S89 r B _ 20 m hh
  refine ⟨m', ?_, h5, h6⟩
  have b0 : (i : Int) < 10 := by omega
  have b1 : (B.length : Int) ≤ (a : Int) := by omega
  rw [J70_5_eq]
  simp only [cmp_lss, b0, decide_true, Option.bind_some, cond_true, anil_ref, afield_ref, Nat.zero_add, l0, l1, asK_I, isPC_sl, cond_false, alen_sl, List.length_map, cmp_geq, b1]
  exact callW_ret h4
theorem J70_bad (r i n : Nat) (B : List UInt8) (hB : B.length ≤ roomB) (m : Mem) (c : UInt8) (l : List UInt8) (h : RfR m r B (c :: l, 0)) (hi : i ≤ 9) (hb : badAt i c) :
    ∃ m', J70_5 (.c (.ref r 0 0 0)) n i m = some (.ret (mkI .u64 0), m') ∧ RfR m' r B ([], 21) ∧ But r m m' := by
  obtain ⟨a, g1, h1, g2, g3, g4, g5⟩ := h.take hB
  obtain ⟨m2, h4, h5, h6⟩ := S89 r B _ 21 _ g5
  refine ⟨m2, ?_, h5, (but_set _ _ _).trans h6⟩
  have l0 := ld (off := 0) h1 rfl
  have l1 := ld (off := 1) h1 rfl
  have b0 : (i : Int) < 10 := by omega
  have b1 : ¬ (B.length : Int) ≤ (a : Int) := by omega
  have hA1 : acmp .no .eql (mkI .i64 (i : Int)) (mkI .i64 9) = some (decide (i = 9)) := by rw [cmp_eql]; exact congrArg some (by rw [decide_eq_decide]; omega)
  have hA2 : acmp .no .gtr (mkI .u8 (c.toNat : Int)) (mkI .u8 1) = some (decide (1 < c.toNat)) := by rw [cmp_gtr]; exact congrArg some (by rw [decide_eq_decide]; omega)
  have hA3 : acmp .no .gtr (mkI .i64 (i : Int)) (mkI .i64 0) = some (decide (0 < i)) := by rw [cmp_gtr]; exact congrArg some (by rw [decide_eq_decide]; omega)
  have hA4 : acmp .no .eql (mkI .u8 (c.toNat : Int)) (mkI .u8 0) = some (decide (c.toNat = 0)) := by rw [cmp_eql]; exact congrArg some (by rw [decide_eq_decide]; omega)
  rw [J70_5_eq]
  simp only [cmp_lss, b0, decide_true, Option.bind_some, cond_true, anil_ref, afield_ref, Nat.zero_add, l0, l1, asK_I, isPC_sl, cond_false, alen_sl, List.length_map, cmp_geq, b1, decide_false, g2, aload_ip, encP, List.drop_zero, List.map_cons, List.map_nil, pick_false, ar_add, g3, g4]
  by_cases a1 : i = 9
  · rw [decide_eq_true a1] at hA1
    by_cases a2 : 1 < c.toNat
    · rw [decide_eq_true a2] at hA2
      rw [hA1, Option.bind_some, cond_true, hA2, Option.bind_some, cond_true]
      exact callW_ret h4
    · rw [decide_eq_false a2] at hA2
      have a4 : c.toNat = 0 := by
        rcases hb with hb | hb
        · exact absurd hb.2 a2
        · exact hb.2
      rw [decide_eq_true a4] at hA4
      rw [decide_eq_true (by omega)] at hA3
      rw [hA1, Option.bind_some, cond_true, hA2, Option.bind_some, cond_false, hA3, Option.bind_some, cond_true, hA4, Option.bind_some, cond_true]
      exact callW_ret h4
  · rw [decide_eq_false a1] at hA1
    obtain ⟨a3, a4⟩ : 0 < i ∧ c.toNat = 0 := by
      rcases hb with hb | hb
      · exact absurd hb.1 a1
      · exact hb
    rw [decide_eq_true a4] at hA4
    rw [decide_eq_true a3] at hA3
    rw [hA1, Option.bind_some, cond_false, hA3, Option.bind_some, cond_true, hA4, Option.bind_some, cond_true]
    exact callW_ret h4
theorem J70_good (r i n : Nat) (B : List UInt8) (hB : B.length ≤ roomB) (m : Mem) (c : UInt8) (l : List UInt8) (h : RfR m r B (c :: l, 0)) (hi : i ≤ 9) (hn : n < 128 ^ i) (hb : ¬ badAt i c) :
    ∃ m', RfR m' r B (l, 0) ∧ But r m m' ∧ J70_5 (.c (.ref r 0 0 0)) n i m = if c.toNat < 128 then some (.ret (mkI .u64 ((n + c.toNat % 128 * 128 ^ i : Nat) : Int)), m') else J70_5 (.c (.ref r 0 0 0)) ((n + c.toNat % 128 * 128 ^ i : Nat) : Int) ((i + 1 : Nat) : Int) m' := by
  obtain ⟨a, g1, h1, g2, g3, g4, g5⟩ := h.take hB
  refine ⟨_, g5, but_set _ _ _, ?_⟩
  have l0 := ld (off := 0) h1 rfl
  have l1 := ld (off := 1) h1 rfl
  have b0 : (i : Int) < 10 := by omega
  have b1 : ¬ (B.length : Int) ≤ (a : Int) := by omega
  have hn9 : ¬ (i = 9 ∧ 1 < c.toNat) := fun hh => hb (.inl hh)
  have hn0 : ¬ (0 < i ∧ c.toNat = 0) := fun hh => hb (.inr hh)
  obtain ⟨hf, _⟩ := num_fits hi hn hn9
  have hc256 := c.toNat_lt
  have e1 : aarith .rem .u8 (mkI .u8 (c.toNat : Int)) (mkI .u8 128) = some ((c.toNat % 128 : Nat) : Int) := by
    rw [ar_rem, if_neg (by omega), Int.tmod_eq_emod_of_nonneg (by omega)]
    exact congrArg some (by omega)
  have e2 : IntKind.u64.wrap ((c.toNat % 128 : Nat) : Int) = ((c.toNat % 128 : Nat) : Int) := in_u64 (by omega)
  have e3 : aarith .mul .i64 (mkI .i64 7) (mkI .i64 (i : Int)) = some ((7 * i : Nat) : Int) := by
    rw [ar_mul, in_i64 (by omega)]
    exact congrArg some (by omega)
  have e3' : IntKind.u64.wrap ((7 * i : Nat) : Int) = ((7 * i : Nat) : Int) := in_u64 (by omega)
  have e4 := shl_mul (d := c.toNat % 128) hi (by omega) .u64
  have e5 := or_add hn hf
  have e6 : IntKind.i64.wrap ((i : Int) + 1) = ((i + 1 : Nat) : Int) := by
    rw [in_i64 (by omega)]
    omega
  have hA1 : acmp .no .eql (mkI .i64 (i : Int)) (mkI .i64 9) = some (decide (i = 9)) := by rw [cmp_eql]; exact congrArg some (by rw [decide_eq_decide]; omega)
  have hA2 : acmp .no .gtr (mkI .u8 (c.toNat : Int)) (mkI .u8 1) = some (decide (1 < c.toNat)) := by rw [cmp_gtr]; exact congrArg some (by rw [decide_eq_decide]; omega)
  have hA3 : acmp .no .gtr (mkI .i64 (i : Int)) (mkI .i64 0) = some (decide (0 < i)) := by rw [cmp_gtr]; exact congrArg some (by rw [decide_eq_decide]; omega)
  have hA4 : acmp .no .eql (mkI .u8 (c.toNat : Int)) (mkI .u8 0) = some (decide (c.toNat = 0)) := by rw [cmp_eql]; exact congrArg some (by rw [decide_eq_decide]; omega)
  have hA5 : acmp .no .lss (mkI .u8 (c.toNat : Int)) (mkI .u8 128) = some (decide (c.toNat < 128)) := by rw [cmp_lss]; exact congrArg some (by rw [decide_eq_decide]; omega)
  generalize m.set r ⟨0, 3, 95, true, [icells B (a + 1) 0]⟩ = m1 at *
  rw [J70_5_eq]
  generalize n + c.toNat % 128 * 128 ^ i = v at *
  have hA0 : acmp .no .lss (mkI .i64 (i : Int)) (mkI .i64 10) = some true := by rw [cmp_lss, decide_eq_true b0]
  have hAl : acmp .no .geq (mkI .i64 (a : Int)) (mkI .i64 (B.length : Int)) = some false := by rw [cmp_geq, decide_eq_false b1]
  have gadd : aarith .add .i64 (mkI .i64 (a : Int)) (mkI .i64 1) = some ((a + 1 : Nat) : Int) := by rw [ar_add, g3]
  have iadd : aarith .add .i64 (mkI .i64 (i : Int)) (mkI .i64 1) = some ((i + 1 : Nat) : Int) := by rw [ar_add, e6]
  simp only [hA0, Option.bind_some, cond_true, anil_ref, afield_ref, Nat.zero_add, l0, l1, asK_I, isPC_sl, cond_false, alen_sl, List.length_map, hAl, g2, aload_ip, encP, List.drop_zero, List.map_cons, List.map_nil, pick_false, gadd, g4]
  by_cases a1 : i = 9
  · rw [decide_eq_true a1] at hA1
    rw [decide_eq_false (by omega)] at hA2
    rw [decide_eq_true (by omega)] at hA3
    rw [decide_eq_false (by omega)] at hA4
    simp only [Option.bind_some, cond_false, cond_true, hA1, hA2, hA3, hA4, hA5, e1, conv_I, e2, e3, e3', e4, e5, iadd, cond_dec]
  · rw [decide_eq_false a1] at hA1
    by_cases a3 : 0 < i
    · rw [decide_eq_true a3] at hA3
      rw [decide_eq_false (by omega)] at hA4
      simp only [Option.bind_some, cond_false, cond_true, hA1, hA3, hA4, hA5, e1, conv_I, e2, e3, e3', e4, e5, iadd, cond_dec]
    · rw [decide_eq_false a3] at hA3
      simp only [Option.bind_some, cond_false, hA1, hA3, hA5, e1, conv_I, e2, e3, e3', e4, e5, iadd, cond_dec]
theorem J70 (r : Nat) (B : List UInt8) (hB : B.length ≤ roomB) : ∀ (k i n : Nat) (m : Mem) (l : List UInt8), i + k = 9 → n < 128 ^ i → RfR m r B (l, 0) →
    ∃ m', J70_5 (.c (.ref r 0 0 0)) n i m = some (.ret (mkI .u64 ((numR (k + 1) i n l).1 : Nat)), m') ∧ RfR m' r B ((numR (k + 1) i n l).2.2, (numR (k + 1) i n l).2.1) ∧ But r m m' := by
  intro k
  induction k with
  | zero =>
    intro i n m l hi hn h
    cases l with
    | nil => exact J70_nil r i n B hB m h (by omega)
    | cons c l =>
      by_cases hb : badAt i c
      · rw [numR_bad hb]
        exact J70_bad r i n B hB m c l h (by omega) hb
      · obtain ⟨m', h1, h2, h3⟩ := J70_good r i n B hB m c l h (by omega) hn hb
        have hc : c.toNat < 128 := Nat.lt_of_not_le fun hh => hb (.inl ⟨by omega, by omega⟩)
        rw [if_pos hc] at h3
        rw [numR_end hb hc]
        exact ⟨m', h3, h1, h2⟩
  | succ k ih =>
    intro i n m l hi hn h
    cases l with
    | nil => exact J70_nil r i n B hB m h (by omega)
    | cons c l =>
      by_cases hb : badAt i c
      · rw [numR_bad hb]
        exact J70_bad r i n B hB m c l h (by omega) hb
      · obtain ⟨m', h1, h2, h3⟩ := J70_good r i n B hB m c l h (by omega) hn hb
        by_cases hc : c.toNat < 128
        · rw [if_pos hc] at h3
          rw [numR_end hb hc]
          exact ⟨m', h3, h1, h2⟩
        · rw [if_neg hc] at h3
          rw [numR_more hb hc]
          obtain ⟨_, hf⟩ := num_fits (i := i) (n := n) (c := c) (by omega) hn fun hh => hb (.inl hh)
          obtain ⟨m2, h4, h5, h6⟩ := ih (i + 1) _ m' l (by omega) (hf (by omega)) h1
          exact ⟨m2, h3.trans h4, h5, h2.trans h6⟩
theorem S70 (r : Nat) (B : List UInt8) (hB : B.length ≤ roomB) (s : St) (m : Mem) (h : RfR m r B s) :
    ∃ m', ans E 70 [.c (.ref r 0 0 0)] m = some (.ret (mkI .u64 ((numS s).1 : Nat)), m') ∧ RfR m' r B (numS s).2 ∧ But r m m' := by
  obtain ⟨l, e⟩ := s
  have hh := h
  obtain ⟨a, h1, h2, h3⟩ := h
  have l2 := ld (off := 2) h1 rfl
  rw [ans_none rfl, C70]
  unfold numS
  by_cases he : e = 0
  · subst he
    rw [if_pos rfl]
    obtain ⟨m', g1, g2, g3⟩ := J70 r B hB 9 0 0 m l rfl (by decide) hh
    refine ⟨m', ?_, g2, g3⟩
    simp only [anil_ref, afield_ref, Nat.zero_add, Option.bind_some, l2, asK_I, cmp_neq, decide_true, Bool.not_true, cond_false]
    exact g1
  · rw [if_neg he]
    refine ⟨m, ?_, hh, But.refl _ _⟩
    simp only [anil_ref, afield_ref, Nat.zero_add, Option.bind_some, l2, asK_I, cmp_neq, he, decide_false, Bool.not_false, cond_true]
    rfl
end Go.Ab

/- The document's Unpack. -/
namespace Go.Ab
open Go

theorem S67 (r : Nat) (B : List UInt8) (hB : B.length ≤ roomB) (s : St) (m : Mem) (h : RfR m r B s) :
    ∃ m', ans E 67 [.c (.ref r 0 0 0)] m = some (.ret (mkI .i64 (intS s).1), m') ∧ RfR m' r B (intS s).2 ∧ But r m m' := by
  obtain ⟨m', h1, h2, h3⟩ := S70 r B hB s m h
  have hlt := numS_lt s
  unfold intS
  generalize numS s = t at *
  refine ⟨m', ?_, h2, h3⟩
  rw [ans_none rfl, C67, callW_ret h1]
  have e1 : aarith .rem .u64 (mkI .u64 (t.1 : Int)) (mkI .u64 2) = some ((t.1 % 2 : Nat) : Int) := by
    rw [ar_rem, if_neg (by omega), Int.tmod_eq_emod_of_nonneg (by omega)]
    exact congrArg some (by omega)
  have e2 : aarith .quo .u64 (mkI .u64 (t.1 : Int)) (mkI .u64 2) = some ((t.1 / 2 : Nat) : Int) := by
    rw [ar_quo, if_neg (by omega), Int.tdiv_eq_ediv_of_nonneg (by omega), in_u64 (by omega)]
    exact congrArg some (by omega)
  have e3 : IntKind.i64.wrap ((t.1 / 2 : Nat) : Int) = ((t.1 / 2 : Nat) : Int) := in_i64 (by omega)
  have e4 : aneg .i64 (mkI .i64 ((t.1 / 2 : Nat) : Int)) = some (-((t.1 / 2 : Nat) : Int)) := by
    simp only [aneg, decide_true, cond_true]
    rw [in_i64 (by omega)]
    exact congrArg some (by omega)
  have e5 : aarith .sub .i64 (mkI .i64 (-((t.1 / 2 : Nat) : Int))) (mkI .i64 1) = some (-((t.1 / 2 : Nat) : Int) - 1) := by
    rw [ar_sub, in_i64 (by omega)]
  have hA : acmp .no .eql (mkI .u64 ((t.1 % 2 : Nat) : Int)) (mkI .u64 0) = some (decide (t.1 % 2 = 0)) := by rw [cmp_eql]; exact congrArg some (by rw [decide_eq_decide]; omega)
  rw [asK_I, Option.bind_some, e1, Option.bind_some, hA, Option.bind_some]
  unfold unzZ
  by_cases h0 : t.1 % 2 = 0
  · rw [decide_eq_true h0, cond_true, e2, Option.bind_some, conv_I, e3, Option.bind_some, if_pos h0]
  · rw [decide_eq_false h0, cond_false, e2, Option.bind_some, conv_I, e3, Option.bind_some, e4, Option.bind_some, e5, Option.bind_some, if_neg h0]
theorem S68 (r : Nat) (B : List UInt8) (hB : B.length ≤ roomB) (s : St) (m : Mem) (h : RfR m r B s) :
    ∃ m', ans E 68 [.c (.ref r 0 0 0)] m = some (.ret (mkB (flagS s).1), m') ∧ RfR m' r B (flagS s).2 ∧ But r m m' := by
  obtain ⟨l, e⟩ := s
  have hh := h
  obtain ⟨a, h1, h2, h3⟩ := h
  have l0 := ld (off := 0) h1 rfl
  have l1 := ld (off := 1) h1 rfl
  have l2 := ld (off := 2) h1 rfl
  rw [ans_none rfl, C68]
  unfold flagS
  by_cases he : e = 0
  · subst he
    rw [if_pos rfl]
    have hE : acmp .no .neq (mkI .i64 0) (mkI .i64 0) = some false := by simp
    cases l with
    | nil =>
      have ha : a = B.length := by
        have : (B.drop a).length = 0 := by rw [h3]; rfl
        simp at this
        omega
      obtain ⟨m', h4, h5, h6⟩ := S89 r B _ 20 m hh
      refine ⟨m', ?_, h5, h6⟩
      have hAl : acmp .no .geq (mkI .i64 (a : Int)) (mkI .i64 (B.length : Int)) = some true := by rw [cmp_geq, decide_eq_true (by omega)]
      simp only [anil_ref, afield_ref, Nat.zero_add, Option.bind_some, l0, l1, l2, asK_I, hE, cond_false, isPC_sl, alen_sl, List.length_map, hAl, cond_true]
      exact callW_ret h4
    | cons c l =>
      obtain ⟨a', g1, h1', g2, g3, g4, g5⟩ := hh.take hB
      have l0' := ld (off := 0) h1' rfl
      have l1' := ld (off := 1) h1' rfl
      have l2' := ld (off := 2) h1' rfl
      have hAl : acmp .no .geq (mkI .i64 (a' : Int)) (mkI .i64 (B.length : Int)) = some false := by rw [cmp_geq, decide_eq_false (by omega)]
      have gadd : aarith .add .i64 (mkI .i64 (a' : Int)) (mkI .i64 1) = some ((a' + 1 : Nat) : Int) := by rw [ar_add, g3]
      have hA2 : acmp .no .gtr (mkI .u8 (c.toNat : Int)) (mkI .u8 1) = some (decide (1 < c.toNat)) := by rw [cmp_gtr]; exact congrArg some (by rw [decide_eq_decide]; omega)
      have hA4 : acmp .no .eql (mkI .u8 (c.toNat : Int)) (mkI .u8 1) = some (decide (c.toNat = 1)) := by rw [cmp_eql]; exact congrArg some (by rw [decide_eq_decide]; omega)
      simp only [anil_ref, afield_ref, Nat.zero_add, Option.bind_some, l0', l1', l2', asK_I, hE, cond_false, isPC_sl, alen_sl, List.length_map, hAl, g2, aload_ip, encP, List.drop_zero, List.map_cons, List.map_nil, pick_false, gadd, g4, hA2, hA4]
      by_cases hc : 1 < c.toNat
      · obtain ⟨m2, h4, h5, h6⟩ := S89 r B _ 21 _ g5
        refine ⟨m2, ?_, by rw [if_pos hc]; exact h5, (but_set _ _ _).trans h6⟩
        rw [decide_eq_true hc, cond_true, if_pos hc]
        exact callW_ret h4
      · refine ⟨_, ?_, by rw [if_neg hc]; exact g5, but_set _ _ _⟩
        rw [decide_eq_false hc, cond_false, if_neg hc]
  · rw [if_neg he]
    refine ⟨m, ?_, hh, But.refl _ _⟩
    simp only [anil_ref, afield_ref, Nat.zero_add, Option.bind_some, l2, asK_I, cmp_neq, he, decide_false, Bool.not_false, cond_true]
theorem bytes_sl (l : List UInt8) (m : Mem) : abytesOf (.e (.c (.p (.sl (l.map encP))))) m = some ⟨l.toArray⟩ := by
  have : elems (.e (.c (.p (.sl (l.map encP))))) m = some (l.map encU) := by
    show some (up (l.map encP)) = _
    rw [up_encP]
  simp [abytesOf, this, toBytes_enc]
theorem S69 (r : Nat) (B : List UInt8) (hB : B.length ≤ roomB) (s : St) (m : Mem) (h : RfR m r B s) :
    ∃ m', ans E 69 [.c (.ref r 0 0 0), tI 1100] m = some (.ret (mkS (textS s).1), m') ∧ RfR m' r B (textS s).2 ∧ But r m m' := by
  obtain ⟨m1, h1, h2, h3⟩ := S70 r B hB s m h
  have hlt := numS_lt s
  rw [ans_none rfl, C69, callW_ret h1]
  unfold textS
  generalize numS s = t at *
  obtain ⟨n, l, e⟩ := t
  simp only at *
  have hh := h2
  obtain ⟨a, g1, g2, g3⟩ := h2
  replace g3 : B.drop a = l := g3
  have hroom : roomB = 140737488355328 := rfl
  have l0 := ld (off := 0) g1 rfl
  have l1 := ld (off := 1) g1 rfl
  have l2 := ld (off := 2) g1 rfl
  by_cases he : e = 0
  · subst he
    rw [if_pos rfl]
    have hE : acmp .no .neq (mkI .i64 0) (mkI .i64 0) = some false := by simp
    have hF : acmp .no .lss (mkI .i64 1100) (mkI .i64 0) = some false := by simp
    have hG : acmp .no .geq (mkI .i64 1100) (mkI .i64 0) = some true := by simp
    have hw : IntKind.u64.wrap 1100 = 1100 := in_u64 (by omega)
    have hA : acmp .no .gtr (mkI .u64 (n : Int)) (mkI .u64 1100) = some (decide (1100 < n)) := by rw [cmp_gtr]; exact congrArg some (by rw [decide_eq_decide]; omega)
    simp only [asK_I, Option.bind_some, anil_ref, afield_ref, Nat.zero_add, l2, hE, cond_false, hF, hG, cond_true, conv_I, hw, hA]
    by_cases hbig : 1100 < n
    · obtain ⟨m2, h4, h5, h6⟩ := S89 r B _ 2 m1 hh
      refine ⟨m2, ?_, by rw [if_pos hbig]; exact h5, h3.trans h6⟩
      rw [decide_eq_true hbig, cond_true, if_pos hbig]
      exact callW_ret h4
    · have h71 : ans E 71 [.c (.ref r 0 0 0)] m1 = some (.ret (mkI .i64 (l.length : Int)), m1) := S71 r B hB _ m1 hh
      have hl : l.length = B.length - a := by rw [← g3]; simp
      have hw2 : IntKind.u64.wrap (l.length : Int) = (l.length : Int) := in_u64 (by omega)
      have hC : acmp .no .gtr (mkI .u64 (n : Int)) (mkI .u64 (l.length : Int)) = some (decide (l.length < n)) := by rw [cmp_gtr]; exact congrArg some (by rw [decide_eq_decide]; omega)
      rw [decide_eq_false hbig, cond_false, callR_ret h71 (List.prefix_refl _) (by rfl)]
      simp only [asK_I, Option.bind_some, conv_I, hw2, hC]
      by_cases hs : l.length < n
      · obtain ⟨m2, h4, h5, h6⟩ := S89 r B _ 20 m1 hh
        refine ⟨m2, ?_, by rw [if_neg hbig, if_pos hs]; exact h5, h3.trans h6⟩
        rw [decide_eq_true hs, cond_true, if_neg hbig, if_pos hs]
        exact callW_ret h4
      · have hw3 : IntKind.i64.wrap (n : Int) = (n : Int) := in_i64 (by omega)
        have hw4 : aarith .add .i64 (mkI .i64 (a : Int)) (mkI .i64 (n : Int)) = some ((a + n : Nat) : Int) := by
          rw [ar_add, in_i64 (by omega)]
          exact congrArg some (by omega)
        have hsl : aslice 1 (.e (.c (.p (.sl (B.map encP))))) (some (a : Int)) (some ((a + n : Nat) : Int)) m1 = some (.p (.sl ((l.take n).map encP))) := by
          have hhd : headLen 1 (B.map encP) = true := by cases B <;> rfl
          have e1 : (a : Int) ≤ ((a + n : Nat) : Int) := by omega
          have e2 : ((a + n : Nat) : Int) ≤ (B.length : Int) := by omega
          have e3 : (((a + n : Nat) : Int) - (a : Int)).toNat = n := by omega
          have e4 : (0 : Int) ≤ (a : Int) := by omega
          simp only [aslice, Option.getD_some, List.length_map, e1, e2, e4, hhd, decide_true, Bool.and_self, cond_true, Int.toNat_natCast, e3]
          rw [← List.map_drop, g3, ← List.map_take]
        have hst := st (off := 1) g1 (by simp) (.p (.c (.int .i64 ((a + n : Nat) : Int))))
        refine ⟨_, ?_, by rw [if_neg hbig, if_neg hs]; exact ⟨a + n, set_get g1, by omega, by rw [← List.drop_drop, g3]⟩, h3.trans (but_set _ _ _)⟩
        rw [decide_eq_false hs, cond_false, if_neg hbig, if_neg hs]
        simp only [l0, l1, Option.bind_some, asK_I, hw3, hw4, hsl, bytes_sl]
        rw [hst]
        rfl
  · rw [if_neg he]
    refine ⟨m1, ?_, hh, h3⟩
    simp only [asK_I, Option.bind_some, anil_ref, afield_ref, Nat.zero_add, l2, cmp_neq, he, decide_false, Bool.not_false, cond_true]
/-! ### Unpack -/
theorem end_iff (s : St) : endS s = true ↔ s.2 = 0 ∧ s.1 = [] := by simp [endS]
def unpackU (b : List UInt8) : TV := match unpackZ b with
  | some r => .t [tR r, .c (.p (.c (.bool true)))]
  | none => .t [tR zeroR, .c (.p (.c (.bool false)))]
theorem J24 (B : List UInt8) (hB : B.length ≤ roomB) (n : Nat) (hn : n ≤ 512) (c : Int) (d : Bool) (z : Int) (t : ByteArray) : ∀ (k i : Nat) (m : Mem) (s : St) (ns : List ByteArray), i + k = n → ns.length = i → RfR m 1 B s → BoxR m 2 c d z t ns → BoxN m →
    (J24_9 (.c (.ref 0 0 0 0)) (.c (.ref 1 0 0 0)) (.c (.ref 2 0 0 0)) n i m).bind frz0 = some (.ret (if endS (readN k s).2 = true then .t [tR ⟨c, d, z, t, ns ++ (readN k s).1⟩, .c (.p (.c (.bool true)))] else .t [tR zeroR, .c (.p (.c (.bool false)))]))
  | 0, i, m, s, ns, hi, hns, hin, hbox, ⟨cs, hcs, h0⟩ => by
    obtain rfl : i = n := by omega
    have h71 := S71 1 B hB s m hin
    obtain ⟨a, g1, g2, g3⟩ := hin
    have l2 := ld (off := 2) g1 rfl
    have hs5 := st5 (cs' := zcells) h0 hcs rfl
    have hl5 := ld5 (set_get (o' := ⟨0, 5, 37, true, [zcells]⟩) h0) rfl
    have hfz := frz_rcells (m := m.set 0 ⟨0, 5, 37, true, [zcells]⟩) (c := 0) (d := false) (z := 0) (t := ⟨#[]⟩) (x := .tsl []) (ns := []) LS.nil
    have hfill : afill [.p (.c (.int .i64 0)), .p (.c (.bool false)), .p (.c (.int .i64 0)), .p (.c (.string ⟨#[]⟩)), .tsl []] [] = some zcells := rfl
    have hA : acmp .no .gtr (mkI .u64 (i : Int)) (mkI .u64 512) = some false := by rw [cmp_gtr, decide_eq_false (by omega)]
    rw [J24_9_eq]
    show _ = some (IRes.ret (if endS s = true then _ else _))
    by_cases he : s.2 = 0
    · have hE : acmp .no .neq (mkI .i64 s.2) (mkI .i64 0) = some false := by rw [he]; simp
      simp only [cmp_lss, Int.lt_irrefl, decide_false, Option.bind_some, cond_false, hA, anil_ref, afield_ref, Nat.zero_add, l2, asK_I, hE]
      rw [callR_ret h71 (List.prefix_refl _) (by rfl)]
      by_cases hl : s.1 = []
      · have hN : acmp .no .neq (mkI .i64 (s.1.length : Int)) (mkI .i64 0) = some false := by rw [hl]; simp
        rw [if_pos ((end_iff s).2 ⟨he, hl⟩)]
        obtain ⟨x, h1, h2, h3⟩ := hbox
        have hlq := ld5 h1 rfl
        have hs5 := st5 (cs' := rcells c d z t x) h0 hcs rfl
        have hl5 := ld5 (set_get (o' := ⟨0, 5, 37, true, [rcells c d z t x]⟩) h0) rfl
        have h2' : LS 9 1 (m.set 0 ⟨0, 5, 37, true, [rcells c d z t x]⟩) x (up (ns.map encS)) := h2.keep fun id hid => set_ne (by omega)
        have hfz := frz_rcells (c := c) (d := d) (z := z) (t := t) h2'
        simp only [asK_I, Option.bind_some, hN, cond_false, hlq, hs5, hl5, frz0_ret, frzT_t, mapO_cons, mapO_nil, hfz, frzE_c]
        simp [readN]
      · have hN : acmp .no .neq (mkI .i64 (s.1.length : Int)) (mkI .i64 0) = some true := by
          rw [cmp_neq, decide_eq_false]
          · rfl
          · have := List.length_pos_iff.2 hl
            omega
        rw [if_neg (fun hh => hl ((end_iff s).1 hh).2)]
        simp only [asK_I, Option.bind_some, hN, cond_true, hfill, hs5, hl5, frz0_ret, frzT_t, mapO_cons, mapO_nil, hfz, frzE_c]
        rfl
    · have hE : acmp .no .neq (mkI .i64 s.2) (mkI .i64 0) = some true := by rw [cmp_neq, decide_eq_false he]; rfl
      rw [if_neg (fun hh => he ((end_iff s).1 hh).1)]
      simp only [cmp_lss, Int.lt_irrefl, decide_false, Option.bind_some, cond_false, hA, anil_ref, afield_ref, Nat.zero_add, l2, asK_I, hE, cond_true, hfill, hs5, hl5, frz0_ret, frzT_t, mapO_cons, mapO_nil, hfz, frzE_c]
      rfl
  | k + 1, i, m, s, ns, hi, hns, hin, hbox, hn0 => by
    have hlt : (i : Int) < (n : Int) := by omega
    have hle : (n : Int) ≤ 512 := by omega
    have e1 : IntKind.u64.wrap ((i : Int) + 1) = (i : Int) + 1 := in_u64 (by omega)
    obtain ⟨m2, h1, h2, h3⟩ := S69 1 B hB s m hin
    have hqlt := hbox.lt
    obtain ⟨x, a1, a2, x', m3, a3, m4, a4, a5, a6⟩ := hbox.push (s := (textS s).1) h3.1 (h3.2 2 (by omega)) (fun id hid => h3.2 id (by omega)) (by omega)
    have hn2 : BoxN m4 := by
      obtain ⟨cs, hcs, h0⟩ := hn0
      exact ⟨cs, hcs, by rw [a6 0 (by omega), h3.2 0 (by omega), h0]⟩
    have hin4 : RfR m4 1 B (textS s).2 := h2.keep (a6 1 (by omega))
    have ih := J24 B hB n hn c d z t k (i + 1) m4 (textS s).2 (ns ++ [(textS s).1]) (by omega) (by simp; omega) hin4 a5 hn2
    have hfs : afillS 1 (List.replicate 1 [.p (.c (.string ⟨#[]⟩))]) [(0, mkS (textS s).1)] = some [[.p (.c (.string (textS s).1))]] := rfl
    rw [J24_9_eq]
    simp only [cmp_lss, hlt, cmp_leq, hle, decide_true, Option.bind_some, cond_true, afield_ref, Nat.zero_add, a1]
    rw [callW_ret h1]
    simp only [asS_S, Option.bind_some, hfs, a3, a4]
    rw [conK_ok]
    · simp only [ar_add, e1, Option.bind_some]
      push_cast at ih
      rw [ih]
      simp [readN, List.append_assoc]
      rfl
    · intro cn hcn
      simp only [List.mem_singleton] at hcn
      subst hcn
      exact .inr (h3.2 2 (by omega)).symm
theorem S24 (b : List UInt8) (hb : b.length ≤ roomB) : ansI E 24 [.c (.p (.sl (b.map encP)))] = some (.ret (unpackU b)) := by
  have hz : ([] ++ [boxObj 37 [.p (.c (.int .i64 0)), .p (.c (.bool false)), .p (.c (.int .i64 0)), .p (.c (.string ⟨#[]⟩)), .tsl []]] : Mem) = [boxObj 37 zcells] := rfl
  have hz2 : boxObj 37 [.p (.c (.int .i64 0)), .p (.c (.bool false)), .p (.c (.int .i64 0)), .p (.c (.string ⟨#[]⟩)), .tsl []] = boxObj 37 zcells := rfl
  have hfl : afill [.tsl [], .p (.c (.int .i64 0)), .p (.c (.int .i64 0))] [(0, 1, .e (.c (.p (.sl (b.map encP)))))] = some (icells b 0 0) := rfl
  obtain ⟨m2, hm2⟩ : ∃ m2 : Mem, m2 = [boxObj 37 zcells] ++ [boxObj 95 (icells b 0 0)] ++ [boxObj 37 zcells] := ⟨_, rfl⟩
  have i0 : RfR m2 1 b (b, 0) := ⟨0, by rw [hm2]; rfl, Nat.zero_le _, rfl⟩
  have n0 : BoxN m2 := ⟨zcells, rfl, by rw [hm2]; rfl⟩
  have q0 : m2[2]? = some ⟨0, 5, 37, true, [zcells]⟩ := by rw [hm2]; rfl
  obtain ⟨m3, r1, i1, k1⟩ := S67 1 b hb (b, 0) m2 i0
  unfold unpackU unpackZ
  dsimp only
  generalize intS (b, 0) = c at *
  have b3 := (k1.2 2 (by omega)).trans q0
  have st3 := st (off := 0) b3 (by simp [rcells]) (.p (.c (.int .i64 c.1)))
  have kp3 : But 2 m3 (m3.set 2 ⟨0, 5, 37, true, [zcells.set 0 (.p (.c (.int .i64 c.1)))]⟩) := but_set _ _ _
  have b4 := set_get (o' := ⟨0, 5, 37, true, [zcells.set 0 (.p (.c (.int .i64 c.1)))]⟩) b3
  have i4 := i1.keep (kp3.2 1 (by omega))
  generalize m3.set 2 ⟨0, 5, 37, true, [zcells.set 0 (.p (.c (.int .i64 c.1)))]⟩ = m4 at *
  obtain ⟨m5, r5, i5, k5⟩ := S68 1 b hb c.2 m4 i4
  generalize flagS c.2 = d at *
  have b5 := (k5.2 2 (by omega)).trans b4
  have st5' := st (off := 1) b5 (by simp [rcells]) (.p (.c (.bool d.1)))
  have kp5 : But 2 m5 (m5.set 2 ⟨0, 5, 37, true, [(zcells.set 0 (.p (.c (.int .i64 c.1)))).set 1 (.p (.c (.bool d.1)))]⟩) := but_set _ _ _
  have b6 := set_get (o' := ⟨0, 5, 37, true, [(zcells.set 0 (.p (.c (.int .i64 c.1)))).set 1 (.p (.c (.bool d.1)))]⟩) b5
  have i6 := i5.keep (kp5.2 1 (by omega))
  generalize m5.set 2 ⟨0, 5, 37, true, [(zcells.set 0 (.p (.c (.int .i64 c.1)))).set 1 (.p (.c (.bool d.1)))]⟩ = m6 at *
  obtain ⟨m7, r7, i7, k7⟩ := S67 1 b hb d.2 m6 i6
  generalize intS d.2 = z at *
  have b7 := (k7.2 2 (by omega)).trans b6
  have st7 := st (off := 2) b7 (by simp [rcells]) (.p (.c (.int .i64 z.1)))
  have kp7 : But 2 m7 (m7.set 2 ⟨0, 5, 37, true, [((zcells.set 0 (.p (.c (.int .i64 c.1)))).set 1 (.p (.c (.bool d.1)))).set 2 (.p (.c (.int .i64 z.1)))]⟩) := but_set _ _ _
  have b8 := set_get (o' := ⟨0, 5, 37, true, [((zcells.set 0 (.p (.c (.int .i64 c.1)))).set 1 (.p (.c (.bool d.1)))).set 2 (.p (.c (.int .i64 z.1)))]⟩) b7
  have i8 := i7.keep (kp7.2 1 (by omega))
  generalize m7.set 2 ⟨0, 5, 37, true, [((zcells.set 0 (.p (.c (.int .i64 c.1)))).set 1 (.p (.c (.bool d.1)))).set 2 (.p (.c (.int .i64 z.1)))]⟩ = m8 at *
  obtain ⟨m9, r9, i9, k9⟩ := S69 1 b hb z.2 m8 i8
  generalize textS z.2 = t at *
  have b9 := (k9.2 2 (by omega)).trans b8
  have st9 := st (off := 3) b9 (by simp [rcells]) (.p (.c (.string t.1)))
  have kp9 : But 2 m9 (m9.set 2 ⟨0, 5, 37, true, [(((zcells.set 0 (.p (.c (.int .i64 c.1)))).set 1 (.p (.c (.bool d.1)))).set 2 (.p (.c (.int .i64 z.1)))).set 3 (.p (.c (.string t.1)))]⟩) := but_set _ _ _
  have b10 := set_get (o' := ⟨0, 5, 37, true, [(((zcells.set 0 (.p (.c (.int .i64 c.1)))).set 1 (.p (.c (.bool d.1)))).set 2 (.p (.c (.int .i64 z.1)))).set 3 (.p (.c (.string t.1)))]⟩) b9
  have i10 := i9.keep (kp9.2 1 (by omega))
  generalize m9.set 2 ⟨0, 5, 37, true, [(((zcells.set 0 (.p (.c (.int .i64 c.1)))).set 1 (.p (.c (.bool d.1)))).set 2 (.p (.c (.int .i64 z.1)))).set 3 (.p (.c (.string t.1)))]⟩ = m10 at *
  obtain ⟨m11, r11, i11, k11⟩ := S70 1 b hb t.2 m10 i10
  generalize numS t.2 = n at *
  have b11 : BoxR m11 2 c.1 d.1 z.1 t.1 [] := ⟨.tsl [], (k11.2 2 (by omega)).trans b10, LS.nil, .inl rfl⟩
  have n11 : BoxN m11 := by
    obtain ⟨cs, hcs, h⟩ := n0
    refine ⟨cs, hcs, ?_⟩
    rw [k11.2 0 (by omega), kp9.2 0 (by omega), k9.2 0 (by omega), kp7.2 0 (by omega), k7.2 0 (by omega), kp5.2 0 (by omega), k5.2 0 (by omega), kp3.2 0 (by omega), k1.2 0 (by omega)]
    exact h
  have w1 : ([boxObj 37 zcells] : Mem).length = 1 := rfl
  have w2 : ([boxObj 37 zcells] ++ [boxObj 95 (icells b 0 0)] : Mem).length = 2 := rfl
  have w0 : ([] : Mem).length = 0 := rfl
  rw [ansI_none rfl, C24]
  simp only [hfl, Option.bind_some, hz2, List.nil_append, w1, w2, w0]
  rw [← hm2, callW_ret r1]
  simp only [asK_I, Option.bind_some, afield_ref, Nat.zero_add, st3]
  rw [callW_ret r5]
  simp only [asB_B, Option.bind_some, st5']
  rw [callW_ret r7]
  simp only [asK_I, Option.bind_some, st7]
  rw [callW_ret r9]
  simp only [asS_S, Option.bind_some, st9]
  rw [callW_ret r11]
  simp only [asK_I, Option.bind_some]
  by_cases hbig : 512 < n.1
  · rw [if_pos hbig]
    obtain ⟨cs, hcs, h0⟩ := n11
    have hs5 := st5 (cs' := zcells) h0 hcs rfl
    have hl5 := ld5 (set_get (o' := ⟨0, 5, 37, true, [zcells]⟩) h0) rfl
    have hfz := frz_rcells (m := m11.set 0 ⟨0, 5, 37, true, [zcells]⟩) (c := 0) (d := false) (z := 0) (t := ⟨#[]⟩) (x := .tsl []) (ns := []) LS.nil
    have hfill0 : afill [.p (.c (.int .i64 0)), .p (.c (.bool false)), .p (.c (.int .i64 0)), .p (.c (.string ⟨#[]⟩)), .tsl []] [] = some zcells := rfl
    have hB0 : acmp .no .lss (mkI .u64 0) (mkI .u64 (n.1 : Int)) = some true := by rw [cmp_lss, decide_eq_true (by omega)]
    have hB1 : acmp .no .leq (mkI .u64 (n.1 : Int)) (mkI .u64 512) = some false := by rw [cmp_leq, decide_eq_false (by omega)]
    have hB2 : acmp .no .gtr (mkI .u64 (n.1 : Int)) (mkI .u64 512) = some true := by rw [cmp_gtr, decide_eq_true (by omega)]
    rw [J24_9_eq]
    simp only [hB0, hB1, hB2, cond_true, cond_false, Option.bind_some, hfill0, hs5, hl5, frz0_ret, frzT_t, mapO_cons, mapO_nil, hfz, frzE_c]
    rfl
  · rw [if_neg hbig]
    have hJ := J24 b hb n.1 (by omega) c.1 d.1 z.1 t.1 n.1 0 m11 n.2 [] (by omega) rfl i11 b11 n11
    have hJ' : (J24_9 (.c (.ref 0 0 0 0)) (.c (.ref 1 0 0 0)) (.c (.ref 2 0 0 0)) (n.1 : Int) 0 m11).bind frz0 = _ := hJ
    rw [hJ']
    split <;> simp_all
end Go.Ab

/- The law of results: what is awake; the same results. -/
namespace Go.Ab
open Go Go.Proofs

abbrev ocells (k : Int) (p : ByteArray) : List CV := [.p (.c (.int .i64 k)), .p (.c (.string p)), .p (.c (.string ⟨#[]⟩)), .p (.c (.string ⟨#[]⟩)), .p (.c (.int .i64 0)), .p (.c (.int .i64 0))]
theorem S12 (s : ByteArray) (hs : s.size ≤ 9223372036854775807) : ansI E 12 [.c (.p (.c (.string s)))] = some (.ret (parseT s)) := by
  have : E.ext 12 = extF 12 := rfl
  unfold ansI ans
  rw [this]
  simp [extF, hs, parseT]
theorem parse_a : parseZ ⟨#[47, 97]⟩ = ([⟨#[97]⟩], 0) := by decide +kernel
theorem S51 : ansI E 51 [tI 7] = some (.ret (mkS ⟨#[114, 101, 110, 97, 109, 101]⟩)) := by
  rw [ansI_none rfl, C51]
  rfl
theorem S85a : ansI E 85 [.a (ocells 1 ⟨#[47, 97]⟩)] = some (.ret (.t [.a (ocells 1 ⟨#[47, 97]⟩), .c (.p (.c (.bool true)))])) := by
  have h : ex E (entry E.P 85 [.a (ocells 1 ⟨#[47, 97]⟩)] []) = J85_20 (.c (.ref 1 0 0 0)) (.c (.ref 2 0 0 0)) [boxObj 74 (ocells 1 ⟨#[47, 97]⟩), boxObj 74 (ocells 0 ⟨#[]⟩), boxObj 74 (ocells 1 ⟨#[47, 97]⟩)] := by
    rw [C85]
    rfl
  rw [ansI_none rfl, h, J85_20_eq]
  rfl
theorem S85b : ansI E 85 [.a (ocells 12 ⟨#[]⟩)] = some (.ret (.t [.a (ocells 0 ⟨#[]⟩), .c (.p (.c (.bool false)))])) := by
  have h : ex E (entry E.P 85 [.a (ocells 12 ⟨#[]⟩)] []) = J85_10 (.c (.ref 1 0 0 0)) (.c (.ref 2 0 0 0)) 12 [boxObj 74 (ocells 12 ⟨#[]⟩), boxObj 74 (ocells 0 ⟨#[]⟩), boxObj 74 (ocells 12 ⟨#[]⟩)] := by
    rw [C85]
    rfl
  have h2 : ∀ m, J85_10 (.c (.ref 1 0 0 0)) (.c (.ref 2 0 0 0)) 12 m = J85_12 (.c (.ref 1 0 0 0)) (.c (.ref 2 0 0 0)) 12 m := by
    intro m
    rw [J85_10_eq]
    rfl
  rw [ansI_none rfl, h, h2, J85_12_eq]
  rfl
theorem S50b : ansI E 50 [.a (ocells 12 ⟨#[]⟩)] = some (.ret (mkI .i64 100)) := by
  have h1 : aload 6 true (.e (.c (.ref 0 0 0 0))) [boxObj 74 (ocells 12 ⟨#[]⟩)] = some (.a (ocells 12 ⟨#[]⟩)) := rfl
  rw [ansI_none rfl, C50]
  simp only [List.length_nil, List.nil_append, cells_a, h1, Option.bind_some]
  rw [callI_ret (pa := [.a (ocells 12 ⟨#[]⟩)]) rfl S85b rfl]
  rfl
theorem S50a : ansI E 50 [.a (ocells 1 ⟨#[47, 97]⟩)] = some (.ret (mkI .i64 0)) := by
  have h1 : aload 6 true (.e (.c (.ref 0 0 0 0))) [boxObj 74 (ocells 1 ⟨#[47, 97]⟩)] = some (.a (ocells 1 ⟨#[47, 97]⟩)) := rfl
  obtain ⟨M, hM⟩ : ∃ M : Mem, M = [boxObj 74 (ocells 1 ⟨#[47, 97]⟩), boxObj 74 (ocells 1 ⟨#[47, 97]⟩)] := ⟨_, rfl⟩
  have h2 : astore 6 (.e (.c (.ref 1 0 0 0))) (.e (.a (ocells 1 ⟨#[47, 97]⟩))) ([boxObj 74 (ocells 1 ⟨#[47, 97]⟩)] ++ [boxObj 74 (ocells 0 ⟨#[]⟩)]) = some M := by rw [hM]; rfl
  have hl : [boxObj 74 (ocells 1 ⟨#[47, 97]⟩)].length = 1 := rfl
  have h3 : aload 6 true (.e (.c (.ref 1 0 0 0))) M = some (.a (ocells 1 ⟨#[47, 97]⟩)) := by rw [hM]; rfl
  have h4 : aload 6 true (.e (.c (.ref 0 0 0 0))) M = some (.a (ocells 1 ⟨#[47, 97]⟩)) := by rw [hM]; rfl
  have h5 : acmp (.s [true, false, false, false, true, true]) .neq (.e (.a (ocells 1 ⟨#[47, 97]⟩))) (.e (.a (ocells 1 ⟨#[47, 97]⟩))) = some false := by decide +kernel
  have f0 : aload 1 false (.e (.c (.ref 0 0 0 0))) M = some (tI 1) := by rw [hM]; rfl
  have f1 : aload 1 false (.e (.c (.ref 0 0 0 1))) M = some (.c (.p (.c (.string ⟨#[47, 97]⟩)))) := by rw [hM]; rfl
  have f3 : aload 1 false (.e (.c (.ref 0 0 0 3))) M = some (.c (.p (.c (.string ⟨#[]⟩)))) := by rw [hM]; rfl
  have f4 : aload 1 false (.e (.c (.ref 0 0 0 4))) M = some (tI 0) := by rw [hM]; rfl
  have f5 : aload 1 false (.e (.c (.ref 0 0 0 5))) M = some (tI 0) := by rw [hM]; rfl
  have hp := S12 ⟨#[47, 97]⟩ (by decide)
  rw [parseT, parse_a] at hp
  rw [ansI_none rfl, C50]
  simp only [List.length_nil, List.nil_append, cells_a, h1, Option.bind_some]
  rw [callI_ret (pa := [.a (ocells 1 ⟨#[47, 97]⟩)]) rfl S85a rfl]
  have hsz : (⟨#[]⟩ : ByteArray).size = 0 := rfl
  simp only [aext_0, aext_1, Option.bind_some, asB_B, h2, anot_B, Bool.not_true, cond_false, hl, h3, h4, h5, afield_ref, Nat.zero_add, f0, f1, f3, f4, f5, asK_I, asS_S, alen_S, hsz, cmp_lss, cmp_gtr, cmp_eql, cmp_neq]
  simp
  rw [callI_ret (pa := [.c (.p (.c (.string ⟨#[47, 97]⟩)))]) rfl hp rfl]
  simp
theorem bytes_a : [] ++ numB (zzZ 1) ++ textB ⟨#[47, 97]⟩ ++ textB ⟨#[]⟩ ++ textB ⟨#[]⟩ ++ numB (zzZ 0) ++ numB (zzZ 0) = [2, 2, 47, 97, 0, 0, 0, 0] := by decide +kernel
theorem S49 : ansI E 49 [.a (ocells 1 ⟨#[47, 97]⟩)] = some (.ret (.t [.c (.p (.sl (([2, 2, 47, 97, 0, 0, 0, 0] : List UInt8).map encP))), tI 0])) := by
  have hbox : ([boxObj 74 (ocells 1 ⟨#[47, 97]⟩)] : Mem)[0]? = some ⟨0, 6, 74, true, [ocells 1 ⟨#[47, 97]⟩]⟩ := rfl
  have ho0 : OutR ([boxObj 74 (ocells 1 ⟨#[47, 97]⟩)] ++ [boxObj 78 [.tsl []]]) 1 [] := ⟨.tsl [], rfl, LS.nil, .inl rfl⟩
  have b0 : ([boxObj 74 (ocells 1 ⟨#[47, 97]⟩)] ++ [boxObj 78 [.tsl []]] : Mem)[0]? = some ⟨0, 6, 74, true, [ocells 1 ⟨#[47, 97]⟩]⟩ := rfl
  obtain ⟨m1, r1, o1, k1⟩ := S52 1 1 (has_i64.2 (by omega)) _ _ ho0 (by decide)
  have b1 := (k1 0 (by omega)).trans b0
  have n1 := numF_len 10 (zzZ 1)
  have n0 := numF_len 10 (zzZ 0)
  have t1 := textB_len ⟨#[47, 97]⟩
  have t0 := textB_len ⟨#[]⟩
  have z1 : (⟨#[47, 97]⟩ : ByteArray).size = 2 := rfl
  have z0 : (⟨#[]⟩ : ByteArray).size = 0 := rfl
  obtain ⟨m2, r2, o2, k2⟩ := S54 1 ⟨#[47, 97]⟩ (by decide) _ _ o1 (by unfold roomB; simp only [numB, List.length_append, List.length_nil]; omega)
  have b2 := (k2 0 (by omega)).trans b1
  obtain ⟨m3, r3, o3, k3⟩ := S54 1 ⟨#[]⟩ (by decide) _ _ o2 (by unfold roomB; simp only [numB, List.length_append, List.length_nil]; omega)
  have b3 := (k3 0 (by omega)).trans b2
  obtain ⟨m4, r4, o4, k4⟩ := S54 1 ⟨#[]⟩ (by decide) _ _ o3 (by unfold roomB; simp only [numB, List.length_append, List.length_nil]; omega)
  have b4 := (k4 0 (by omega)).trans b3
  obtain ⟨m5, r5, o5, k5⟩ := S52 1 0 (has_i64.2 (by omega)) _ _ o4 (by unfold roomB; simp only [numB, List.length_append, List.length_nil]; omega)
  have b5 := (k5 0 (by omega)).trans b4
  obtain ⟨m6, r6, o6, k6⟩ := S52 1 0 (has_i64.2 (by omega)) _ _ o5 (by unfold roomB; simp only [numB, List.length_append, List.length_nil]; omega)
  rw [bytes_a] at o6
  obtain ⟨x, m7, h1, h2, h3⟩ := S56 1 _ m6 o6 (by decide)
  have hf : frzT m7 m6.length (.e (.c x)) = some (.e (.c (.p (.sl (([2, 2, 47, 97, 0, 0, 0, 0] : List UInt8).map encP))))) := by
    simp only [frzT, frzE, cond_false, frz_new h2]
  have l1 := ld (off := 1) hbox rfl
  have l2 := ld (off := 2) hbox rfl
  have l3 := ld (off := 3) hbox rfl
  have c0 := ld (off := 0) b0 rfl
  have c1 := ld (off := 1) b1 rfl
  have c2 := ld (off := 2) b2 rfl
  have c3 := ld (off := 3) b3 rfl
  have c4 := ld (off := 4) b4 rfl
  have c5 := ld (off := 5) b5 rfl
  have hmx : amaxI .i64 [mkI .i64 ((2 : Nat) : Int), mkI .i64 ((0 : Nat) : Int), mkI .i64 ((0 : Nat) : Int)] = some 2 := rfl
  have hgt : acmp .no .gtr (mkI .i64 2) (mkI .i64 1100) = some false := by simp
  have w1 : ([boxObj 74 (ocells 1 ⟨#[47, 97]⟩)] : Mem).length = 1 := rfl
  rw [ansI_none rfl, C49]
  simp only [List.length_nil, List.nil_append, cells_a, afield_ref, Nat.zero_add, Option.bind_some, l1, l2, l3, asS_S, alen_S, z1, z0, hmx, hgt, cond_false, w1, c0, asK_I]
  rw [callW_ret r1]
  simp only [c1, Option.bind_some, asS_S]
  rw [callW_ret r2]
  simp only [c2, Option.bind_some, asS_S]
  rw [callW_ret r3]
  simp only [c3, Option.bind_some, asS_S]
  rw [callW_ret r4]
  simp only [c4, Option.bind_some, asK_I]
  rw [callW_ret r5]
  simp only [c5, Option.bind_some, asK_I]
  rw [callW_ret r6, callR_ret h1 h3.pre hf]
  rfl
theorem S20 : ansI E 20 [] = some (.ret (mkB true)) := by
  have f1 : afill (ocells 0 ⟨#[]⟩) [(0, 1, mkI .i64 1), (1, 1, mkS ⟨#[47, 97]⟩)] = some (ocells 1 ⟨#[47, 97]⟩) := rfl
  have f2 : afill (ocells 0 ⟨#[]⟩) [(0, 1, mkI .i64 12)] = some (ocells 12 ⟨#[]⟩) := rfl
  have hb := bytes_sl [2, 2, 47, 97, 0, 0, 0, 0] []
  rw [ansI_none rfl, C20]
  simp only [f1, Option.bind_some]
  rw [callI_ret (pa := [.a (ocells 1 ⟨#[47, 97]⟩)]) rfl S49 rfl]
  simp only [aext_0, aext_1, Option.bind_some, asK_I, cmp_eql, decide_true, cond_true, hb, cmpS_eql]
  rw [callI_ret (pa := [.a (ocells 1 ⟨#[47, 97]⟩)]) rfl S50a rfl]
  simp only [asK_I, Option.bind_some, cmp_eql, decide_true, cond_true, f2]
  rw [callI_ret (pa := [.a (ocells 12 ⟨#[]⟩)]) rfl S50b rfl]
  simp only [asK_I, Option.bind_some, cmp_eql, decide_true, cond_true]
  rw [callI_ret (pa := [tI 7]) rfl S51 rfl]
  simp
/-! ### The same results -/
theorem J25 (r : RS) (hl : r.names.length ≤ 9223372036854775807) : ∀ (k i : Nat), i + k = r.names.length →
    (J25_4 (.c (.ref 0 0 0 0)) (.c (.ref 1 0 0 0)) i [boxObj 37 r.cells, boxObj 37 r.cells]).bind frz0 = some (.ret (mkB true))
  | 0, i, h => by
    obtain rfl : i = r.names.length := by omega
    have l0 : aload 1 false (.e (.c (.ref 0 0 0 4))) [boxObj 37 r.cells, boxObj 37 r.cells] = some (tN r.names) := rfl
    rw [J25_4_eq]
    simp [l0]
  | k + 1, i, h => by
    have hlt : i < r.names.length := by omega
    have l0 : aload 1 false (.e (.c (.ref 0 0 0 4))) [boxObj 37 r.cells, boxObj 37 r.cells] = some (tN r.names) := rfl
    have l1 : aload 1 false (.e (.c (.ref 1 0 0 4))) [boxObj 37 r.cells, boxObj 37 r.cells] = some (tN r.names) := rfl
    have e1 : IntKind.i64.wrap ((i : Int) + 1) = (i : Int) + 1 := in_i64 (by omega)
    have hx : r.names[i]? = some r.names[i] := List.getElem?_eq_getElem hlt
    have hi := aidx_map (enc := encS) (k := 1) (m := [boxObj 37 r.cells, boxObj 37 r.cells]) hx rfl
    have ih := J25 r hl k (i + 1) (by omega)
    push_cast at ih
    have hlt' : (i : Int) < (r.names.length : Int) := by omega
    rw [J25_4_eq]
    simp only [afield_ref, Nat.zero_add, Option.bind_some, l0, l1, isPC_sl, cond_false, alen_sl, List.length_map, cmp_lss, hlt', decide_true, cond_true, hi, encS, aload_ip, List.drop_zero, List.map_cons, List.map_nil, pick_false, asS_S, cmpS_neq, Bool.not_true, ar_add, e1]
    exact ih
theorem S25 (r : RS) (hl : r.names.length ≤ 9223372036854775807) : ansI E 25 [tR r, tR r] = some (.ret (mkB true)) := by
  have h := J25 r hl r.names.length 0 (by omega)
  have h' : (J25_4 (.c (.ref 0 0 0 0)) (.c (.ref 1 0 0 0)) 0 [boxObj 37 r.cells, boxObj 37 r.cells]).bind frz0 = some (.ret (mkB true)) := h
  have a0 : ∀ off x, r.cells[off]? = some x → aload 1 false (.e (.c (.ref 0 0 0 off))) [boxObj 37 r.cells, boxObj 37 r.cells] = some (.c x) := fun off x hx => ld (m := [boxObj 37 r.cells, boxObj 37 r.cells]) (r := 0) (k := 5) (t := 37) (cs := r.cells) rfl hx
  have a1 : ∀ off x, r.cells[off]? = some x → aload 1 false (.e (.c (.ref 1 0 0 off))) [boxObj 37 r.cells, boxObj 37 r.cells] = some (.c x) := fun off x hx => ld (m := [boxObj 37 r.cells, boxObj 37 r.cells]) (r := 1) (k := 5) (t := 37) (cs := r.cells) rfl hx
  have p0 := a0 0 _ rfl
  have p1 := a0 1 _ rfl
  have p2 := a0 2 _ rfl
  have p3 := a0 3 _ rfl
  have p4 := a0 4 _ rfl
  have q0 := a1 0 _ rfl
  have q1 := a1 1 _ rfl
  have q2 := a1 2 _ rfl
  have q3 := a1 3 _ rfl
  have q4 := a1 4 _ rfl
  have hap : [boxObj 37 r.cells] ++ [boxObj 37 r.cells] = [boxObj 37 r.cells, boxObj 37 r.cells] := rfl
  have w1 : ([boxObj 37 r.cells] : Mem).length = 1 := rfl
  have hbb : ∀ b : Bool, acmp .b .neq (mkB b) (mkB b) = some false := fun b => by cases b <;> rfl
  rw [ansI_none rfl, C25]
  simp only [List.length_nil, List.nil_append, cells_a, hap, w1, afield_ref, Nat.zero_add, Option.bind_some, p0, p1, p2, p3, p4, q0, q1, q2, q3, q4, asK_I, asB_B, asS_S, cmp_neq, cmpS_neq, hbb, decide_true, Bool.not_true, cond_false, isPC_sl, alen_sl, List.length_map]
  exact h'
end Go.Ab

/- The law of results, run. -/
namespace Go.Ab
open Go Go.Proofs

theorem readN_len : ∀ (k : Nat) (s : St), (readN k s).1.length = k
  | 0, _ => rfl
  | k + 1, s => by
    show (readN k (textS s).2).1.length + 1 = k + 1
    rw [readN_len k]
theorem unpack_len {b : List UInt8} {r : RS} (h : unpackZ b = some r) : r.names.length ≤ 512 := by
  unfold unpackZ at h
  dsimp only at h
  split at h
  · cases h
  · split at h
    · cases h
      show (readN _ _).1.length ≤ 512
      rw [readN_len]
      omega
    · cases h
/-- What is left behind an 'Unpack'. -/
def outR (b : List UInt8) : RS := (unpackZ b).getD zeroR
theorem outR_len (b : List UInt8) : (outR b).names.length ≤ 9223372036854775807 := by
  unfold outR
  cases h : unpackZ b with
  | none => simp [zeroR]
  | some r =>
    have := unpack_len h
    simp only [Option.getD_some]
    omega
theorem unpackT_eq (b : List UInt8) : unpackT b = .t [tR (outR b), tI (if (unpackZ b).isSome then 0 else 21)] := by
  unfold unpackT outR
  cases unpackZ b <;> rfl
theorem unpackU_eq (b : List UInt8) : unpackU b = .t [tR (outR b), .c (.p (.c (.bool (unpackZ b).isSome)))] := by
  unfold unpackU outR
  cases unpackZ b <;> rfl
theorem L4 (r : RS) (hr : r.Fits) (b : List UInt8) (hb : b.length ≤ roomB) : ∃ m', ex E (entry E.P 4 [tR r, .c (.p (.sl (b.map encP)))] []) = some (.ret (mkB true), m') := by
  have h21 := S21 r hr
  have h22 := S22 r hr
  have h23 := S23 b hb
  have h24 := S24 b hb
  rw [unpackT_eq] at h23
  rw [unpackU_eq] at h24
  rw [packT] at h21 h22
  have h25 := S25 (outR b) (outR_len b)
  generalize outR b = u at *
  generalize packZ r = p at *
  have a1 : aload 5 true (.e (.c (.ref 0 0 0 0))) [boxObj 37 r.cells] = some (tR r) := rfl
  have s1 : astore 5 (.e (.c (.ref 1 0 0 0))) (.e (tR u)) ([boxObj 37 r.cells] ++ [boxObj 37 [.p (.c (.int .i64 0)), .p (.c (.bool false)), .p (.c (.int .i64 0)), .p (.c (.string ⟨#[]⟩)), .tsl []]]) = some [boxObj 37 r.cells, boxObj 37 u.cells] := rfl
  have s2 : astore 5 (.e (.c (.ref 2 0 0 0))) (.e (tR u)) ([boxObj 37 r.cells, boxObj 37 u.cells] ++ [boxObj 37 [.p (.c (.int .i64 0)), .p (.c (.bool false)), .p (.c (.int .i64 0)), .p (.c (.string ⟨#[]⟩)), .tsl []]]) = some [boxObj 37 r.cells, boxObj 37 u.cells, boxObj 37 u.cells] := rfl
  have a2 : aload 5 true (.e (.c (.ref 1 0 0 0))) [boxObj 37 r.cells, boxObj 37 u.cells, boxObj 37 u.cells] = some (tR u) := rfl
  have a3 : aload 5 true (.e (.c (.ref 2 0 0 0))) [boxObj 37 r.cells, boxObj 37 u.cells, boxObj 37 u.cells] = some (tR u) := rfl
  have w1 : ([boxObj 37 r.cells] : Mem).length = 1 := rfl
  have w2 : ([boxObj 37 r.cells, boxObj 37 u.cells] : Mem).length = 2 := rfl
  have hbs := fun m => bytes_sl p.1 m
  have hbb : ∀ b : Bool, acmp .b .eql (mkB b) (mkB b) = some true := fun b => by cases b <;> rfl
  refine ⟨[boxObj 37 r.cells, boxObj 37 u.cells, boxObj 37 u.cells], ?_⟩
  rw [C4]
  simp only [List.length_nil, List.nil_append, cells_a]
  rw [callI_ret (pa := []) rfl S20 rfl]
  simp only [asB_B, Option.bind_some, anot_B, Bool.not_true, cond_false, a1]
  rw [callI_ret (pa := [tR r]) rfl h21 rfl]
  simp only [aext_0, aext_1, Option.bind_some, asK_I, a1]
  rw [callI_ret (pa := [tR r]) rfl h22 rfl]
  simp only [aext_0, aext_1, Option.bind_some, asK_I]
  rw [callI_ret (pa := [.c (.p (.sl (b.map encP)))]) rfl h23 rfl]
  simp only [aext_0, aext_1, Option.bind_some, asK_I, w1, s1]
  rw [callI_ret (pa := [.c (.p (.sl (b.map encP)))]) rfl h24 rfl]
  simp only [aext_0, aext_1, Option.bind_some, asB_B, w2, s2, cmp_eql, decide_true, cond_true, hbs, cmpS_eql, a2, a3]
  rw [callI_ret (pa := [tR u, tR u]) rfl h25 rfl]
  simp only [asB_B, Option.bind_some, cond_true]
  cases (unpackZ b).isSome <;> rfl
end Go.Ab

/- What is written is read as it was, and what is read is written as it was. -/
namespace Go.Ab
open Go Go.Proofs

theorem ofNat_self (c : UInt8) : UInt8.ofNat c.toNat = c := by simp
theorem numR_back : ∀ (k i a n : Nat) (rest : List UInt8), i + k = 9 → a < 128 ^ i → a + n * 128 ^ i < 18446744073709551616 → (0 < i → 0 < n) → numR (k + 1) i a (numF (k + 1) n ++ rest) = (a + n * 128 ^ i, 0, rest) := by
  intro k
  induction k with
  | zero =>
    intro i a n rest hi ha hb h0
    obtain rfl : i = 9 := by omega
    have hp : 128 ^ 9 = 9223372036854775808 := by decide
    have hn : n ≤ 1 := by
      rw [hp] at hb
      omega
    have hn0 := h0 (by omega)
    have hf : numF (0 + 1) n = [UInt8.ofNat n] := by rw [numF, if_pos (by omega)]
    have hc : (UInt8.ofNat n).toNat = n := by simp; omega
    rw [hf]
    show numR (0 + 1) 9 a (UInt8.ofNat n :: rest) = _
    have hbad : ¬ badAt 9 (UInt8.ofNat n) := by
      rw [badAt, hc]
      omega
    rw [numR_end hbad (by omega), hc, Nat.mod_eq_of_lt (by omega)]
  | succ k ih =>
    intro i a n rest hi ha hb h0
    by_cases hn : n < 128
    · have hf : numF (k + 1 + 1) n = [UInt8.ofNat n] := by rw [numF, if_pos hn]
      have hc : (UInt8.ofNat n).toNat = n := by simp; omega
      rw [hf]
      show numR (k + 1 + 1) i a (UInt8.ofNat n :: rest) = _
      have hbad : ¬ badAt i (UInt8.ofNat n) := by
        rw [badAt, hc]
        omega
      rw [numR_end hbad (by omega), hc, Nat.mod_eq_of_lt hn]
    · have hf : numF (k + 1 + 1) n = UInt8.ofNat (n % 128 + 128) :: numF (k + 1) (n / 128) := by rw [numF, if_neg hn]
      have hc : (UInt8.ofNat (n % 128 + 128)).toNat = n % 128 + 128 := by simp; omega
      rw [hf]
      show numR (k + 1 + 1) i a (UInt8.ofNat (n % 128 + 128) :: (numF (k + 1) (n / 128) ++ rest)) = _
      have hbad : ¬ badAt i (UInt8.ofNat (n % 128 + 128)) := by
        rw [badAt, hc]
        omega
      have hm : (n % 128 + 128) % 128 = n % 128 := by omega
      rw [numR_more hbad (by omega), hc, hm]
      have e1 : 128 ^ (i + 1) = 128 * 128 ^ i := by rw [Nat.pow_succ]; omega
      have e2 : n * 128 ^ i = n % 128 * 128 ^ i + n / 128 * 128 ^ (i + 1) := by
        rw [e1, ← Nat.mul_assoc, ← Nat.add_mul]
        congr 1
        omega
      have h127 : n % 128 * 128 ^ i ≤ 127 * 128 ^ i := Nat.mul_le_mul_right _ (by omega)
      rw [ih (i + 1) _ (n / 128) rest (by omega) (by omega) (by omega) (fun _ => by omega)]
      rw [e2, Nat.add_assoc]
theorem numR_forth : ∀ (k i a v : Nat) (l rest : List UInt8), numR k i a l = (v, 0, rest) → ∃ n, v = a + n * 128 ^ i ∧ l = numF k n ++ rest ∧ (0 < i → 0 < n) := by
  intro k
  induction k with
  | zero =>
    intro i a v l rest h
    injection h with h1 h2
    injection h2 with h3 h4
    omega
  | succ k ih =>
    intro i a v l rest h
    cases l with
    | nil =>
      rw [numR_nil] at h
      injection h with h1 h2
      injection h2 with h3 h4
      omega
    | cons c l =>
      have hc256 := c.toNat_lt
      by_cases hb : badAt i c
      · rw [numR_bad hb] at h
        injection h with h1 h2
        injection h2 with h3 h4
        omega
      · by_cases hc : c.toNat < 128
        · rw [numR_end hb hc, Nat.mod_eq_of_lt hc] at h
          injection h with h1 h2
          injection h2 with h3 h4
          subst h1 h4
          refine ⟨c.toNat, rfl, ?_, fun hi => ?_⟩
          · rw [numF, if_pos hc, ofNat_self]
            rfl
          · exact Nat.pos_of_ne_zero fun e => hb (.inr ⟨hi, e⟩)
        · rw [numR_more hb hc] at h
          obtain ⟨n, h1, h2, h3⟩ := ih _ _ _ _ _ h
          have hn := h3 (by omega)
          refine ⟨c.toNat % 128 + 128 * n, ?_, ?_, fun _ => by omega⟩
          · rw [h1, Nat.pow_succ, Nat.add_mul, Nat.add_assoc, Nat.mul_comm 128 n, Nat.mul_assoc n 128, Nat.mul_comm (128 ^ i) 128]
          · have e1 : (c.toNat % 128 + 128 * n) % 128 + 128 = c.toNat := by omega
            have e2 : (c.toNat % 128 + 128 * n) / 128 = n := by omega
            rw [numF, if_neg (by omega), e1, e2, ofNat_self, h2]
            rfl
theorem numS_back {n : Nat} (hn : n < 18446744073709551616) (rest : List UInt8) : numS (numB n ++ rest, 0) = (n, rest, 0) := by
  have h := numR_back 9 0 0 n rest rfl (by decide) (by omega) (fun h => absurd h (by omega))
  rw [Nat.pow_zero, Nat.mul_one, Nat.zero_add] at h
  unfold numS numB
  rw [if_pos rfl]
  simp only
  rw [h]
theorem numS_forth {s : St} {n : Nat} {rest : List UInt8} (h : numS s = (n, rest, 0)) : s = (numB n ++ rest, 0) := by
  obtain ⟨l, e⟩ := s
  unfold numS at h
  by_cases he : e = 0
  · subst he
    rw [if_pos rfl] at h
    simp only at h
    injection h with h1 h2
    injection h2 with h3 h4
    have hr : numR 10 0 0 l = (n, 0, rest) := by
      rw [← h1, ← h3, ← h4]
    obtain ⟨n', g1, g2, _⟩ := numR_forth 10 0 0 n l rest hr
    rw [Nat.pow_zero, Nat.mul_one, Nat.zero_add] at g1
    rw [g1, g2]
    rfl
  · rw [if_neg he] at h
    injection h with h1 h2
    injection h2 with h3 h4
    exact absurd h4 he
theorem unzz {n : Int} (h : Has .i64 n) : unzZ (zzZ n) = n := by
  unfold unzZ zzZ
  split <;> split <;> omega
theorem zzun {n : Nat} : zzZ (unzZ n) = n := by
  unfold unzZ zzZ
  split <;> split <;> omega
theorem intS_back {n : Int} (hn : Has .i64 n) (rest : List UInt8) : intS (numB (zzZ n) ++ rest, 0) = (n, rest, 0) := by
  unfold intS
  rw [numS_back (zz_lt hn), unzz hn]
theorem intS_forth {s : St} {v : Int} {rest : List UInt8} (h : intS s = (v, rest, 0)) : s = (numB (zzZ v) ++ rest, 0) ∧ Has .i64 v := by
  have hlt := numS_lt s
  unfold intS at h
  injection h with h1 h2
  have h3 : numS s = ((numS s).1, rest, 0) := by rw [← h2]
  refine ⟨?_, ?_⟩
  · rw [← h1, zzun]
    exact numS_forth h3
  · rw [has_i64, ← h1]
    unfold unzZ
    split <;> omega
theorem flagB (b : Bool) : numB (flagZ b) = [if b then 1 else 0] := by cases b <;> rfl
theorem flagS_back (b : Bool) (rest : List UInt8) : flagS (numB (flagZ b) ++ rest, 0) = (b, rest, 0) := by
  rw [flagB]
  cases b <;> rfl
theorem flagS_forth {s : St} {b : Bool} {rest : List UInt8} (h : flagS s = (b, rest, 0)) : s = (numB (flagZ b) ++ rest, 0) := by
  obtain ⟨l, e⟩ := s
  unfold flagS at h
  by_cases he : e = 0
  · subst he
    rw [if_pos rfl] at h
    cases l with
    | nil =>
      injection h with h1 h2
      injection h2 with h3 h4
      omega
    | cons c l =>
      simp only at h
      split at h
      · injection h with h1 h2
        injection h2 with h3 h4
        omega
      · rename_i hc
        injection h with h1 h2
        injection h2 with h3 h4
        subst h3
        rw [flagB, ← h1]
        have : c = if decide (c.toNat = 1) = true then 1 else 0 := by
          apply UInt8.toNat_inj.1
          by_cases h1 : c.toNat = 1
          · simp [h1]
          · have : c.toNat = 0 := by omega
            simp [this]
        rw [← this]
        rfl
  · rw [if_neg he] at h
    injection h with h1 h2
    injection h2 with h3 h4
    exact absurd h4 he
theorem data_len (s : ByteArray) : s.data.toList.length = s.size := by rw [Array.length_toList]; rfl
theorem ba_mk (s : ByteArray) : (⟨s.data.toList.toArray⟩ : ByteArray) = s := by
  obtain ⟨⟨l⟩⟩ := s
  rfl
theorem textS_back {t : ByteArray} (ht : t.size ≤ 1100) (rest : List UInt8) : textS (textB t ++ rest, 0) = (t, rest, 0) := by
  have hn := numS_back (n := t.size) (by omega) (t.data.toList ++ rest)
  have hl := data_len t
  unfold textS
  unfold textB
  rw [List.append_assoc, hn]
  simp only
  rw [if_pos trivial, if_neg (by omega), if_neg (by simp only [List.length_append]; omega), ← hl, List.take_left, List.drop_left, ba_mk]
theorem textS_forth {s : St} {t : ByteArray} {rest : List UInt8} (h : textS s = (t, rest, 0)) : s = (textB t ++ rest, 0) ∧ t.size ≤ 1100 := by
  unfold textS at h
  by_cases he : (numS s).2.2 = 0
  · rw [if_pos he] at h
    by_cases h1 : 1100 < (numS s).1
    · rw [if_pos h1] at h
      injection h with g1 g2
      injection g2 with g3 g4
      omega
    · rw [if_neg h1] at h
      by_cases h2 : (numS s).2.1.length < (numS s).1
      · rw [if_pos h2] at h
        injection h with g1 g2
        injection g2 with g3 g4
        omega
      · rw [if_neg h2] at h
        injection h with g1 g2
        injection g2 with g3 g4
        have hs : numS s = ((numS s).1, (numS s).2.1, 0) := by rw [← he]
        have hf := numS_forth hs
        have htl : t.data.toList = (numS s).2.1.take (numS s).1 := by rw [← g1]
        have hsz : t.size = (numS s).1 := by
          rw [← data_len, htl]
          simp
          omega
        refine ⟨?_, by omega⟩
        unfold textB
        rw [List.append_assoc, htl, ← g3, List.take_append_drop, hsz]
        exact hf
  · rw [if_neg he] at h
    injection h with g1 g2
    rw [g2] at he
    exact absurd rfl he
theorem readN_back : ∀ (ns : List ByteArray) (rest : List UInt8), (∀ n ∈ ns, n.size ≤ 1100) → readN ns.length ((ns.map textB).flatten ++ rest, 0) = (ns, rest, 0)
  | [], rest, _ => rfl
  | n :: ns, rest, h => by
    have h1 := textS_back (h n (by simp)) ((ns.map textB).flatten ++ rest)
    have h2 := readN_back ns rest fun m hm => h m (by simp [hm])
    show ((textS _).1 :: (readN ns.length (textS _).2).1, (readN ns.length (textS _).2).2) = _
    rw [List.map_cons, List.flatten_cons, List.append_assoc, h1]
    simp only
    rw [h2]
theorem readN_forth : ∀ (k : Nat) (s : St) (ns : List ByteArray) (rest : List UInt8), readN k s = (ns, rest, 0) → s = ((ns.map textB).flatten ++ rest, 0) ∧ (∀ n ∈ ns, n.size ≤ 1100) ∧ ns.length = k
  | 0, s, ns, rest, h => by
    have h' : (([] : List ByteArray), s) = (ns, rest, 0) := h
    injection h' with h1 h2
    subst h1 h2
    exact ⟨rfl, by simp, rfl⟩
  | k + 1, s, ns, rest, h => by
    have h' : ((textS s).1 :: (readN k (textS s).2).1, (readN k (textS s).2).2) = (ns, rest, 0) := h
    injection h' with h1 h2
    have h3 : readN k (textS s).2 = ((readN k (textS s).2).1, rest, 0) := by rw [← h2]
    obtain ⟨g1, g2, g3⟩ := readN_forth k _ _ _ h3
    have h4 : textS s = ((textS s).1, (((readN k (textS s).2).1.map textB).flatten ++ rest), 0) := by rw [← g1]
    obtain ⟨g4, g5⟩ := textS_forth h4
    subst h1
    refine ⟨?_, ?_, by simp [g3]⟩
    · rw [List.map_cons, List.flatten_cons, List.append_assoc]
      exact g4
    · intro n hn
      rcases List.mem_cons.1 hn with rfl | hn
      · exact g5
      · exact g2 n hn
/-! ### Results -/
theorem unpack_back {r : RS} (hr : r.Fits) (h : (packZ r).2 = 0) : unpackZ (packZ r).1 = some r := by
  unfold packZ at h ⊢
  split at h
  · cases h
  · rename_i h1
    split at h
    · cases h
    · rename_i h2
      rw [if_neg h1, if_neg h2]
      have hd : r.data.size ≤ 1100 := Nat.le_of_not_lt fun hh => h1 (.inl hh)
      have hn : ∀ n ∈ r.names, n.size ≤ 1100 := fun n hn => Nat.le_of_not_lt fun hh => h1 (.inr ⟨n, hn, hh⟩)
      have e1 := intS_back hr.code (numB (flagZ r.dir) ++ (numB (zzZ r.size) ++ (textB r.data ++ (numB r.names.length ++ (r.names.map textB).flatten))))
      have e2 := flagS_back r.dir (numB (zzZ r.size) ++ (textB r.data ++ (numB r.names.length ++ (r.names.map textB).flatten)))
      have e3 := intS_back hr.size (textB r.data ++ (numB r.names.length ++ (r.names.map textB).flatten))
      have e4 := textS_back hd (numB r.names.length ++ (r.names.map textB).flatten)
      have e5 := numS_back (n := r.names.length) (by omega) (r.names.map textB).flatten
      have e6 := readN_back r.names [] hn
      rw [List.append_nil] at e6
      unfold unpackZ headB
      simp only [List.append_assoc]
      rw [e1]
      simp only
      rw [e2]
      simp only
      rw [e3]
      simp only
      rw [e4]
      simp only
      rw [e5]
      simp only
      rw [e6, if_neg h2]
      simp [endS]
theorem unpack_forth {b : List UInt8} {r : RS} (h : unpackZ b = some r) : packZ r = (b, 0) ∧ r.Fits := by
  unfold unpackZ at h
  dsimp only at h
  split at h
  · cases h
  · rename_i h512
    split at h
    · rename_i hend
      rw [end_iff] at hend
      injection h with h
      have e6 : readN (numS (textS (intS (flagS (intS (b, 0)).2).2).2).2).1 (numS (textS (intS (flagS (intS (b, 0)).2).2).2).2).2 = ((readN (numS (textS (intS (flagS (intS (b, 0)).2).2).2).2).1 (numS (textS (intS (flagS (intS (b, 0)).2).2).2).2).2).1, [], 0) := by
        refine Prod.ext rfl (Prod.ext hend.2 hend.1)
      obtain ⟨f6, g6, k6⟩ := readN_forth _ _ _ _ e6
      have e5 := numS_forth (s := (textS (intS (flagS (intS (b, 0)).2).2).2).2) (Prod.ext rfl f6)
      obtain ⟨e4, g4⟩ := textS_forth (s := (intS (flagS (intS (b, 0)).2).2).2) (Prod.ext rfl e5)
      obtain ⟨e3, g3⟩ := intS_forth (s := (flagS (intS (b, 0)).2).2) (Prod.ext rfl e4)
      have e2 := flagS_forth (s := (intS (b, 0)).2) (Prod.ext rfl e3)
      obtain ⟨e1, g1⟩ := intS_forth (s := (b, 0)) (Prod.ext rfl e2)
      have hb : b = _ := congrArg Prod.fst e1
      subst h
      simp only at *
      rw [List.append_nil] at hb
      refine ⟨?_, ⟨g1, g3, Nat.le_trans g4 (by omega), fun n hn => by have := g6 n hn; omega, by rw [k6]; omega⟩⟩
      unfold packZ
      rw [if_neg, if_neg]
      · unfold headB
        simp only [List.append_assoc]
        rw [k6]
        exact Prod.ext hb.symm rfl
      · simp only
        omega
      · rintro (hh | ⟨n, hn, hh⟩)
        · exact absurd hh (Nat.not_lt.2 g4)
        · have := g6 n hn
          omega
    · cases h
abbrev zlist : List CV := [.p (.c (.int .i64 0)), .p (.c (.bool false)), .p (.c (.int .i64 0)), .p (.c (.string ⟨#[]⟩)), .tsl []]
theorem st_last (m : Mem) (u : RS) : astore 5 (.e (.c (.ref m.length 0 0 0))) (.e (tR u)) (m ++ [boxObj 37 zlist]) = some (m ++ [boxObj 37 u.cells]) := by
  have h : (m ++ [boxObj 37 zlist])[m.length]? = some ⟨0, 5, 37, true, [zlist]⟩ := by simp [boxObj]
  rw [st5 h rfl rfl]
  simp [boxObj, RS.cells]
theorem ld_last (m : Mem) (u : RS) : aload 5 true (.e (.c (.ref m.length 0 0 0))) (m ++ [boxObj 37 u.cells]) = some (tR u) := by
  have h : (m ++ [boxObj 37 u.cells])[m.length]? = some ⟨0, 5, 37, true, [u.cells]⟩ := by simp [boxObj, RS.cells]
  exact ld5 h rfl
theorem J5 (b : List UInt8) (hb : b.length ≤ roomB) (m : Mem) : ∃ m', J5_8 (.c (.p (.sl (b.map encP)))) m = some (.ret (mkB true), m') := by
  have h23 := S23 b hb
  unfold unpackT at h23
  rw [J5_8_eq]
  cases hu : unpackZ b with
  | none =>
    rw [hu] at h23
    have h25 := S25 zeroR (by simp [zeroR])
    have hne : acmp .no .neq (mkI .i64 21) (mkI .i64 0) = some true := by simp
    have hfill : afill zlist [] = some zlist := rfl
    refine ⟨m ++ [boxObj 37 zeroR.cells], ?_⟩
    rw [callI_ret (pa := [.c (.p (.sl (b.map encP)))]) rfl h23 rfl]
    simp only [aext_0, aext_1, Option.bind_some, asK_I, st_last, hne, cond_true, ld_last, hfill]
    rw [callI_ret (pa := [tR zeroR, tR zeroR]) rfl h25 rfl]
    rfl
  | some q =>
    rw [hu] at h23
    obtain ⟨hp, hq⟩ := unpack_forth hu
    have h21 := S21 q hq
    rw [packT, hp] at h21
    have hne : acmp .no .neq (mkI .i64 0) (mkI .i64 0) = some false := by simp
    have heq : acmp .no .eql (mkI .i64 0) (mkI .i64 0) = some true := by simp
    have hbs := fun m => bytes_sl b m
    refine ⟨m ++ [boxObj 37 q.cells], ?_⟩
    rw [callI_ret (pa := [.c (.p (.sl (b.map encP)))]) rfl h23 rfl]
    simp only [aext_0, aext_1, Option.bind_some, asK_I, st_last, hne, cond_false, ld_last]
    rw [callI_ret (pa := [tR q]) rfl h21 rfl]
    simp only [aext_0, aext_1, Option.bind_some, asK_I, heq, cond_true, hbs, cmpS_eql, decide_true]
theorem pack_len {r : RS} (h : (packZ r).2 = 0) : (packZ r).1.length ≤ roomB := by
  have hh := headB_len r
  unfold packZ at h ⊢
  split at h
  · cases h
  · rename_i h1
    split at h
    · cases h
    · rename_i h2
      rw [if_neg h1, if_neg h2]
      have hd : r.data.size ≤ 1100 := Nat.le_of_not_lt fun hh => h1 (.inl hh)
      have hn : ∀ n ∈ r.names, n.size ≤ 1100 := fun n hn => Nat.le_of_not_lt fun hh => h1 (.inr ⟨n, hn, hh⟩)
      have hfl : ∀ l : List ByteArray, (∀ n ∈ l, n.size ≤ 1100) → ((l.map textB).flatten).length ≤ 1110 * l.length := by
        intro l
        induction l with
        | nil => simp
        | cons x l ih =>
          intro hl
          have h3 := ih fun n hn => hl n (by simp [hn])
          have h4 := textB_len x
          have h5 := hl x (by simp)
          rw [List.map_cons, List.flatten_cons, List.length_append, List.length_cons]
          omega
      have := hfl r.names hn
      simp only [List.length_append]
      unfold roomB
      omega
theorem L5 (r : RS) (hr : r.Fits) (b : List UInt8) (hb : b.length ≤ roomB) : ∃ m', ex E (entry E.P 5 [tR r, .c (.p (.sl (b.map encP)))] []) = some (.ret (mkB true), m') := by
  have h21 := S21 r hr
  rw [packT] at h21
  have a1 : aload 5 true (.e (.c (.ref 0 0 0 0))) [boxObj 37 r.cells] = some (tR r) := rfl
  rw [C5]
  simp only [List.length_nil, List.nil_append, cells_a]
  rw [callI_ret (pa := []) rfl S20 rfl]
  simp only [asB_B, Option.bind_some, anot_B, Bool.not_true, cond_false, a1]
  rw [callI_ret (pa := [tR r]) rfl h21 rfl]
  simp only [aext_0, aext_1, Option.bind_some, asK_I]
  by_cases h0 : (packZ r).2 = 0
  · have heq : acmp .no .eql (mkI .i64 (packZ r).2) (mkI .i64 0) = some true := by rw [cmp_eql, decide_eq_true h0]
    have h23 := S23 (packZ r).1 (pack_len h0)
    unfold unpackT at h23
    rw [unpack_back hr h0] at h23
    have h25 := S25 r hr.len
    obtain ⟨m', hj⟩ := J5 b hb [boxObj 37 r.cells, boxObj 37 r.cells]
    have hs := st_last [boxObj 37 r.cells] r
    have hl := ld_last [boxObj 37 r.cells] r
    have w1 : ([boxObj 37 r.cells] : Mem).length = 1 := rfl
    have hap : [boxObj 37 r.cells] ++ [boxObj 37 r.cells] = [boxObj 37 r.cells, boxObj 37 r.cells] := rfl
    have a2 : aload 5 true (.e (.c (.ref 0 0 0 0))) [boxObj 37 r.cells, boxObj 37 r.cells] = some (tR r) := rfl
    have hne : acmp .no .neq (mkI .i64 0) (mkI .i64 0) = some false := by simp
    rw [hap] at hs hl
    rw [w1] at hs hl
    refine ⟨m', ?_⟩
    simp only [heq, Option.bind_some, cond_true]
    rw [callI_ret (pa := [.c (.p (.sl ((packZ r).1.map encP)))]) rfl h23 rfl]
    simp only [aext_0, aext_1, Option.bind_some, asK_I, w1, hs, hne, cond_false, hl, a2]
    rw [callI_ret (pa := [tR r, tR r]) rfl h25 rfl]
    simp only [asB_B, Option.bind_some, anot_B, Bool.not_true, cond_false]
    exact hj
  · have heq : acmp .no .eql (mkI .i64 (packZ r).2) (mkI .i64 0) = some false := by rw [cmp_eql, decide_eq_false h0]
    simp only [heq, Option.bind_some, cond_false]
    exact J5 b hb _
end Go.Ab
