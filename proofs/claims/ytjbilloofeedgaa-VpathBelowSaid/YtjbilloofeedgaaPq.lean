/- What the functions of the path law come to. -/
import Derived.Test.YtjbilloofeedgaaPx
import Derived.Test.YtjbilloofeedgaaProg
set_option linter.unusedVariables false
set_option linter.unusedSimpArgs false
set_option linter.unusedVariables false
set_option maxRecDepth 100000
namespace Go.Ab
open Go
def keepL : List (Nat × Nat × List Nat) := [(3, 9, [1, 5, 7]), (13, 4, [0, 3]), (17, 4, [0, 1, 5]), (40, 4, []), (40, 5, [0]), (44, 2, [0, 5, 6, 7]), (46, 4, [0, 1, 12, 13]), (47, 2, [0, 1, 2, 11, 12, 13]), (83, 4, [0, 20, 21])]
def isoL : List Nat := [3, 11, 12, 13, 14, 15, 16, 17, 18, 19, 40, 42, 43, 44, 46, 48, 83, 84]
def roL : List Nat := []
def alL : List Nat := [45]
noncomputable def E : Env := { P := Go.Proofs.Try.prog, keep := keepIn keepL, mode := fun f => cond (isoL.contains f) .iso (cond (roL.contains f) .ro (cond (alL.contains f) .al .rw)), ext := extF }
noncomputable abbrev A0 : Alg (Option Out) := optA (ex E) (ex E)
-- 3 veneer/veneerlaw04.VpathBelow
noncomputable def J3_9 (e_1 : ByteArray) (r_5 : TE) (v_7 : ByteArray) (m : Mem) : Option Out := ex E (cfgAt E.P 3 9 (tms 117 [(1, (mkS e_1)), (5, (.e r_5)), (7, (mkS v_7))]) m)
theorem C3 (v_0 : ByteArray) (e_1 : ByteArray) (m : Mem) : ex E (entry E.P 3 [.c (.p (.c (.string v_0))), .c (.p (.c (.string e_1)))] m) =
 (callI A0 E false 11 [] m fun v1 => ((asB v1).bind fun b2 => ((anot (mkB b2)).bind fun b3 => (cond b3
 (some (.ret (.e (.c (.p (.c (.bool false))))), m))
 (callI A0 E false 12 [.c (.p (.c (.string v_0)))] m fun v4 => ((aext v4 0).bind fun v5 => ((aext v4 1).bind fun v6 => ((asK .i64 (.e v6)).bind fun n7 => ((acmp .no .neq (mkI .i64 n7) (mkI .i64 0)).bind fun b8 => (cond b8
 (some (.ret (.e (.c (.p (.c (.bool true))))), m))
 (callI A0 E false 13 [.c (.p (.c (.string e_1)))] m fun v9 => ((asB v9).bind fun b10 => ((anot (mkB b10)).bind fun b11 => (cond b11
 (some (.ret (.e (.c (.p (.c (.bool true))))), m))
 (callI A0 E false 14 [v5] m fun v12 => ((asS v12).bind fun s13 => (cond (isPC (.e v5)) none ((alen (.e v5)).bind fun n14 => ((acmp .no .gtr (mkI .i64 n14) (mkI .i64 0)).bind fun b15 => (cond b15
 ((acat (mkS s13) (mkS ⟨#[47]⟩)).bind fun s16 => (J3_9 e_1 v5 s16 m))
 (J3_9 e_1 v5 s13 m))))))))))))))))))))) := (ex_seg E 600 _).trans (by kernel_rfl)
theorem J3_9_eq (e_1 : ByteArray) (r_5 : TE) (v_7 : ByteArray) (m : Mem) : J3_9 e_1 r_5 v_7 m =
 ((alen (mkS v_7)).bind fun n1 => ((alen (mkS e_1)).bind fun n2 => ((aarith .add .i64 (mkI .i64 n1) (mkI .i64 n2)).bind fun n3 => ((aarith .add .i64 (mkI .i64 n3) (mkI .i64 3)).bind fun n4 => ((acmp .no .gtr (mkI .i64 n4) (mkI .i64 256)).bind fun b5 => (cond b5
 (some (.ret (.e (.c (.p (.c (.bool true))))), m))
 ((acat (mkS v_7) (mkS e_1)).bind fun s6 => (callI A0 E false 12 [.c (.p (.c (.string s6)))] m fun v7 => ((aext v7 0).bind fun v8 => ((aext v7 1).bind fun v9 => ((asK .i64 (.e v9)).bind fun n10 => (cond (isPC (.e r_5)) none ((alen (.e r_5)).bind fun n11 => ((acmp .no .eql (mkI .i64 n11) (mkI .i64 8)).bind fun b12 => (cond b12
 ((acmp .no .eql (mkI .i64 n10) (mkI .i64 42)).bind fun b13 => (cond b13
 (cond (isPC (.e v8)) none ((alen (.e v8)).bind fun n14 => ((acmp .no .eql (mkI .i64 n14) (mkI .i64 0)).bind fun b15 => (some (.ret (.e (.c (.p (.c (.bool b15))))), m)))))
 (some (.ret (.e (.c (.p (.c (.bool false))))), m))))
 (callI A0 E false 15 [v8] m fun v16 => ((aext v16 0).bind fun v17 => ((aext v16 1).bind fun v18 => ((asS (.e v18)).bind fun s19 => ((aext v16 2).bind fun v20 => ((asK .i64 (.e v20)).bind fun n21 => ((acat (mkS v_7) (mkS e_1)).bind fun s22 => ((acat (mkS s22) (mkS ⟨#[47, 46, 46]⟩)).bind fun s23 => (callI A0 E false 16 [.c (.p (.c (.string s23)))] m fun v24 => ((aext v24 0).bind fun v25 => ((asS (.e v25)).bind fun s26 => ((aext v24 1).bind fun v27 => ((asK .i64 (.e v27)).bind fun n28 => ((acmp .no .eql (mkI .i64 n10) (mkI .i64 0)).bind fun b29 => (cond b29
 ((acmp .no .eql (mkI .i64 n21) (mkI .i64 0)).bind fun b30 => (cond b30
 ((acmp .no .eql (mkI .i64 n28) (mkI .i64 0)).bind fun b31 => (cond b31
 ((acmp .no .eql (mkS s19) (mkS e_1)).bind fun b32 => (cond b32
 (callI A0 E false 17 [v17, r_5] m fun v33 => ((asB v33).bind fun b34 => (cond b34
 (callI A0 E false 18 [v8, r_5] m fun v35 => ((asB v35).bind fun b36 => (cond b36
 (callI A0 E false 18 [r_5, v8] m fun v37 => ((asB v37).bind fun b38 => ((anot (mkB b38)).bind fun b39 => (cond b39
 (callI A0 E false 19 [r_5, v8] m fun v40 => ((asK .i64 v40).bind fun n41 => ((acmp .no .lss (mkI .i64 n41) (mkI .i64 0)).bind fun b42 => (cond b42
 (callI A0 E false 14 [r_5] m fun v43 => ((asS v43).bind fun s44 => ((acmp .no .eql (mkS s26) (mkS s44)).bind fun b45 => (some (.ret (.e (.c (.p (.c (.bool b45))))), m)))))
 (some (.ret (.e (.c (.p (.c (.bool false))))), m))))))
 (some (.ret (.e (.c (.p (.c (.bool false))))), m))))))
 (some (.ret (.e (.c (.p (.c (.bool false))))), m)))))
 (some (.ret (.e (.c (.p (.c (.bool false))))), m)))))
 (some (.ret (.e (.c (.p (.c (.bool false))))), m))))
 (some (.ret (.e (.c (.p (.c (.bool false))))), m))))
 (some (.ret (.e (.c (.p (.c (.bool false))))), m))))
 (some (.ret (.e (.c (.p (.c (.bool false))))), m)))))))))))))))))))))))))))))))) := (ex_seg E 600 _).trans (by kernel_rfl)
-- 11 veneer/veneerlaw04.awake
theorem C11  (m : Mem) : ex E (entry E.P 11 [] m) =
 (callI A0 E false 16 [.c (.p (.c (.string ⟨#[47, 97, 47, 46, 47, 98, 47, 47, 99, 47, 46, 46, 47, 100, 47]⟩)))] m fun v1 => ((aext v1 0).bind fun v2 => ((asS (.e v2)).bind fun s3 => ((aext v1 1).bind fun v4 => ((asK .i64 (.e v4)).bind fun n5 => (callI A0 E false 12 [.c (.p (.c (.string ⟨#[97]⟩)))] m fun v6 => ((aext v6 0).bind fun v7 => ((aext v6 1).bind fun v8 => ((asK .i64 (.e v8)).bind fun n9 => ((acmp .no .eql (mkS s3) (mkS ⟨#[47, 97, 47, 98, 47, 100]⟩)).bind fun b10 => (cond b10
 ((acmp .no .eql (mkI .i64 n5) (mkI .i64 0)).bind fun b11 => (cond b11
 ((acmp .no .eql (mkI .i64 n9) (mkI .i64 40)).bind fun b12 => (some (.ret (.e (.c (.p (.c (.bool b12))))), m)))
 (some (.ret (.e (.c (.p (.c (.bool false))))), m))))
 (some (.ret (.e (.c (.p (.c (.bool false))))), m))))))))))))) := (ex_seg E 600 _).trans (by kernel_rfl)
-- 13 veneer/veneerref04.Name
noncomputable def J13_4 (v_0 : ByteArray) (e_3 : Int) (m : Mem) : Option Out := ex E (cfgAt E.P 13 4 (tms 31 [(0, (mkS v_0)), (3, (mkI .i64 e_3))]) m)
theorem C13 (v_0 : ByteArray) (m : Mem) : ex E (entry E.P 13 [.c (.p (.c (.string v_0)))] m) =
 ((alen (mkS v_0)).bind fun n1 => ((acmp .no .lss (mkI .i64 n1) (mkI .i64 1)).bind fun b2 => (cond b2
 (some (.ret (.e (.c (.p (.c (.bool false))))), m))
 ((alen (mkS v_0)).bind fun n3 => ((acmp .no .gtr (mkI .i64 n3) (mkI .i64 16)).bind fun b4 => (cond b4
 (some (.ret (.e (.c (.p (.c (.bool false))))), m))
 ((acmp .no .eql (mkS v_0) (mkS ⟨#[46]⟩)).bind fun b5 => (cond b5
 (some (.ret (.e (.c (.p (.c (.bool false))))), m))
 ((acmp .no .eql (mkS v_0) (mkS ⟨#[46, 46]⟩)).bind fun b6 => (cond b6
 (some (.ret (.e (.c (.p (.c (.bool false))))), m))
 (J13_4 v_0 0 m))))))))))) := (ex_seg E 600 _).trans (by kernel_rfl)
theorem J13_4_eq (v_0 : ByteArray) (e_3 : Int) (m : Mem) : J13_4 v_0 e_3 m =
 ((alen (mkS v_0)).bind fun n1 => ((acmp .no .lss (mkI .i64 e_3) (mkI .i64 n1)).bind fun b2 => (cond b2
 ((aidxS (mkS v_0) e_3).bind fun n3 => (callI A0 E false 42 [.c (.p (.c (.int .u8 n3)))] m fun v4 => ((asB v4).bind fun b5 => ((anot (mkB b5)).bind fun b6 => (cond b6
 (some (.ret (.e (.c (.p (.c (.bool false))))), m))
 ((aarith .add .i64 (mkI .i64 e_3) (mkI .i64 1)).bind fun n7 => (J13_4 v_0 n7 m)))))))
 (some (.ret (.e (.c (.p (.c (.bool true))))), m))))) := (ex_seg E 600 _).trans (by kernel_rfl)
-- 14 veneer/vpath.Show
theorem C14 (v_0 : TE) (m : Mem) : ex E (entry E.P 14 [v_0] m) =
 (callI A0 E false 43 [v_0, .c (.p (.c (.string ⟨#[47]⟩)))] m fun v1 => ((asS v1).bind fun s2 => ((acat (mkS ⟨#[47]⟩) (mkS s2)).bind fun s3 => (some (.ret (.e (.c (.p (.c (.string s3))))), m))))) := (ex_seg E 600 _).trans (by kernel_rfl)
-- 15 veneer/vpath.Split
theorem C15 (v_0 : TE) (m : Mem) : ex E (entry E.P 15 [v_0] m) =
 (callI A0 E false 44 [v_0] m fun v1 => ((asK .i64 v1).bind fun n2 => ((acmp .no .neq (mkI .i64 n2) (mkI .i64 0)).bind fun b3 => (cond b3
 (some (.ret (.t [.c (.tsl []), .c (.p (.c (.string ⟨#[]⟩))), .c (.p (.c (.int .i64 n2)))]), m))
 (cond (isPC (.e v_0)) none ((alen (.e v_0)).bind fun n4 => ((aarith .sub .i64 (mkI .i64 n4) (mkI .i64 1)).bind fun n5 => ((acmp .no .lss (mkI .i64 n5) (mkI .i64 0)).bind fun b6 => (cond b6
 (some (.ret (.t [.c (.tsl []), .c (.p (.c (.string ⟨#[]⟩))), .c (.p (.c (.int .i64 132)))]), m))
 ((aslice 1 (.e v_0) none (some n5) m).bind fun v7 => (callA A0 E true 45 [.c (v7)] m fun v8 m9 => ((asE v8).bind fun e10 => ((aidx 1 (.e v_0) n5 m9).bind fun v11 => ((aload 1 false (.e (.c (v11))) m9).bind fun v12 => ((asS (.e v12)).bind fun s13 => (some (.ret (.t [e10, .c (.p (.c (.string s13))), .c (.p (.c (.int .i64 0)))]), m9))))))))))))))))) := (ex_seg E 600 _).trans (by kernel_rfl)
-- 16 veneer/vpath.Clean
theorem C16 (v_0 : ByteArray) (m : Mem) : ex E (entry E.P 16 [.c (.p (.c (.string v_0)))] m) =
 (callI A0 E false 12 [.c (.p (.c (.string v_0)))] m fun v1 => ((aext v1 0).bind fun v2 => ((aext v1 1).bind fun v3 => ((asK .i64 (.e v3)).bind fun n4 => ((acmp .no .neq (mkI .i64 n4) (mkI .i64 0)).bind fun b5 => (cond b5
 (some (.ret (.t [.c (.p (.c (.string ⟨#[]⟩))), .c (.p (.c (.int .i64 n4)))]), m))
 (callI A0 E false 14 [v2] m fun v6 => ((asS v6).bind fun s7 => (some (.ret (.t [.c (.p (.c (.string s7))), .c (.p (.c (.int .i64 0)))]), m)))))))))) := (ex_seg E 600 _).trans (by kernel_rfl)
-- 17 veneer/veneerref03.Texts
noncomputable def J17_4 (v_0 : TE) (e_1 : TE) (r_5 : Int) (m : Mem) : Option Out := ex E (cfgAt E.P 17 4 (tms 26 [(0, (.e v_0)), (1, (.e e_1)), (5, (mkI .i64 r_5))]) m)
theorem C17 (v_0 : TE) (e_1 : TE) (m : Mem) : ex E (entry E.P 17 [v_0, e_1] m) =
 (cond (isPC (.e v_0)) none ((alen (.e v_0)).bind fun n1 => (cond (isPC (.e e_1)) none ((alen (.e e_1)).bind fun n2 => ((acmp .no .neq (mkI .i64 n1) (mkI .i64 n2)).bind fun b3 => (cond b3
 (some (.ret (.e (.c (.p (.c (.bool false))))), m))
 (J17_4 v_0 e_1 0 m))))))) := (ex_seg E 600 _).trans (by kernel_rfl)
theorem J17_4_eq (v_0 : TE) (e_1 : TE) (r_5 : Int) (m : Mem) : J17_4 v_0 e_1 r_5 m =
 (cond (isPC (.e v_0)) none ((alen (.e v_0)).bind fun n1 => ((acmp .no .lss (mkI .i64 r_5) (mkI .i64 n1)).bind fun b2 => (cond b2
 ((aidx 1 (.e v_0) r_5 m).bind fun v3 => ((aload 1 false (.e (.c (v3))) m).bind fun v4 => ((asS (.e v4)).bind fun s5 => ((aidx 1 (.e e_1) r_5 m).bind fun v6 => ((aload 1 false (.e (.c (v6))) m).bind fun v7 => ((asS (.e v7)).bind fun s8 => ((acmp .no .neq (mkS s5) (mkS s8)).bind fun b9 => (cond b9
 (some (.ret (.e (.c (.p (.c (.bool false))))), m))
 ((aarith .add .i64 (mkI .i64 r_5) (mkI .i64 1)).bind fun n10 => (J17_4 v_0 e_1 n10 m))))))))))
 (some (.ret (.e (.c (.p (.c (.bool true))))), m)))))) := (ex_seg E 600 _).trans (by kernel_rfl)
-- 18 veneer/vpath.Within
theorem C18 (v_0 : TE) (e_1 : TE) (m : Mem) : ex E (entry E.P 18 [v_0, e_1] m) =
 (cond (isPC (.e v_0)) none ((alen (.e v_0)).bind fun n1 => (cond (isPC (.e e_1)) none ((alen (.e e_1)).bind fun n2 => ((acmp .no .geq (mkI .i64 n1) (mkI .i64 n2)).bind fun b3 => (cond b3
 (cond (isPC (.e e_1)) none ((alen (.e e_1)).bind fun n4 => ((aslice 1 (.e v_0) none (some n4) m).bind fun v5 => (callI A0 E false 46 [.c (v5), e_1] m fun v6 => ((asB v6).bind fun b7 => (some (.ret (.e (.c (.p (.c (.bool b7))))), m)))))))
 (some (.ret (.e (.c (.p (.c (.bool false))))), m)))))))) := (ex_seg E 600 _).trans (by kernel_rfl)
-- 19 veneer/vpath.Compare
theorem C19 (v_0 : TE) (e_1 : TE) (m : Mem) : ex E (entry E.P 19 [v_0, e_1] m) =
 (callW A0 E false 47 [v_0, e_1, .c (.clo 48 [] [])] m fun v1 m2 => ((asK .i64 v1).bind fun n3 => (some (.ret (.e (.c (.p (.c (.int .i64 n3))))), m2)))) := (ex_seg E 600 _).trans (by kernel_rfl)
-- 40 veneer/vpath.plain
noncomputable def J40_4  (m : Mem) : Option Out := ex E (cfgAt E.P 40 4 (tms 34 []) m)
noncomputable def J40_5 (v_0 : Int) (m : Mem) : Option Out := ex E (cfgAt E.P 40 5 (tms 34 [(0, (mkI .u8 v_0))]) m)
theorem C40 (v_0 : Int) (m : Mem) : ex E (entry E.P 40 [.c (.p (.c (.int .u8 v_0)))] m) =
 ((acmp .no .eql (mkI .u8 v_0) (mkI .u8 46)).bind fun b1 => (cond b1
 (J40_4 m)
 ((acmp .no .eql (mkI .u8 v_0) (mkI .u8 95)).bind fun b2 => (cond b2
 (J40_4 m)
 ((acmp .no .eql (mkI .u8 v_0) (mkI .u8 45)).bind fun b3 => (cond b3
 (J40_4 m)
 ((acmp .no .geq (mkI .u8 v_0) (mkI .u8 48)).bind fun b4 => (cond b4
 ((acmp .no .leq (mkI .u8 v_0) (mkI .u8 57)).bind fun b5 => (cond b5
 (J40_4 m)
 ((acmp .no .geq (mkI .u8 v_0) (mkI .u8 97)).bind fun b6 => (cond b6
 ((acmp .no .leq (mkI .u8 v_0) (mkI .u8 122)).bind fun b7 => (cond b7
 (J40_4 m)
 (J40_5 v_0 m)))
 (J40_5 v_0 m)))))
 ((acmp .no .geq (mkI .u8 v_0) (mkI .u8 97)).bind fun b8 => (cond b8
 ((acmp .no .leq (mkI .u8 v_0) (mkI .u8 122)).bind fun b9 => (cond b9
 (J40_4 m)
 (J40_5 v_0 m)))
 (J40_5 v_0 m))))))))))) := (ex_seg E 600 _).trans (by kernel_rfl)
theorem J40_4_eq  (m : Mem) : J40_4  m =
 (some (.ret (.e (.c (.p (.c (.bool true))))), m)) := (ex_seg E 600 _).trans (by kernel_rfl)
theorem J40_5_eq (v_0 : Int) (m : Mem) : J40_5 v_0 m =
 ((acmp .no .geq (mkI .u8 v_0) (mkI .u8 65)).bind fun b1 => (cond b1
 ((acmp .no .leq (mkI .u8 v_0) (mkI .u8 90)).bind fun b2 => (some (.ret (.e (.c (.p (.c (.bool b2))))), m)))
 (some (.ret (.e (.c (.p (.c (.bool false))))), m)))) := (ex_seg E 600 _).trans (by kernel_rfl)
-- 42 veneer/veneerref04.Plain
theorem C42 (v_0 : Int) (m : Mem) : ex E (entry E.P 42 [.c (.p (.c (.int .u8 v_0)))] m) =
 ((acmp .no .geq (mkI .u8 v_0) (mkI .u8 97)).bind fun b1 => (cond b1
 ((acmp .no .leq (mkI .u8 v_0) (mkI .u8 122)).bind fun b2 => (cond b2
 (some (.ret (.e (.c (.p (.c (.bool true))))), m))
 ((acmp .no .geq (mkI .u8 v_0) (mkI .u8 65)).bind fun b3 => (cond b3
 ((acmp .no .leq (mkI .u8 v_0) (mkI .u8 90)).bind fun b4 => (cond b4
 (some (.ret (.e (.c (.p (.c (.bool true))))), m))
 ((acmp .no .geq (mkI .u8 v_0) (mkI .u8 48)).bind fun b5 => (cond b5
 ((acmp .no .leq (mkI .u8 v_0) (mkI .u8 57)).bind fun b6 => (cond b6
 (some (.ret (.e (.c (.p (.c (.bool true))))), m))
 ((acmp .no .eql (mkI .u8 v_0) (mkI .u8 46)).bind fun b7 => (cond b7
 (some (.ret (.e (.c (.p (.c (.bool true))))), m))
 ((acmp .no .eql (mkI .u8 v_0) (mkI .u8 95)).bind fun b8 => (cond b8
 (some (.ret (.e (.c (.p (.c (.bool true))))), m))
 ((acmp .no .eql (mkI .u8 v_0) (mkI .u8 45)).bind fun b9 => (some (.ret (.e (.c (.p (.c (.bool b9))))), m)))))))))
 ((acmp .no .eql (mkI .u8 v_0) (mkI .u8 46)).bind fun b10 => (cond b10
 (some (.ret (.e (.c (.p (.c (.bool true))))), m))
 ((acmp .no .eql (mkI .u8 v_0) (mkI .u8 95)).bind fun b11 => (cond b11
 (some (.ret (.e (.c (.p (.c (.bool true))))), m))
 ((acmp .no .eql (mkI .u8 v_0) (mkI .u8 45)).bind fun b12 => (some (.ret (.e (.c (.p (.c (.bool b12))))), m)))))))))))
 ((acmp .no .geq (mkI .u8 v_0) (mkI .u8 48)).bind fun b13 => (cond b13
 ((acmp .no .leq (mkI .u8 v_0) (mkI .u8 57)).bind fun b14 => (cond b14
 (some (.ret (.e (.c (.p (.c (.bool true))))), m))
 ((acmp .no .eql (mkI .u8 v_0) (mkI .u8 46)).bind fun b15 => (cond b15
 (some (.ret (.e (.c (.p (.c (.bool true))))), m))
 ((acmp .no .eql (mkI .u8 v_0) (mkI .u8 95)).bind fun b16 => (cond b16
 (some (.ret (.e (.c (.p (.c (.bool true))))), m))
 ((acmp .no .eql (mkI .u8 v_0) (mkI .u8 45)).bind fun b17 => (some (.ret (.e (.c (.p (.c (.bool b17))))), m)))))))))
 ((acmp .no .eql (mkI .u8 v_0) (mkI .u8 46)).bind fun b18 => (cond b18
 (some (.ret (.e (.c (.p (.c (.bool true))))), m))
 ((acmp .no .eql (mkI .u8 v_0) (mkI .u8 95)).bind fun b19 => (cond b19
 (some (.ret (.e (.c (.p (.c (.bool true))))), m))
 ((acmp .no .eql (mkI .u8 v_0) (mkI .u8 45)).bind fun b20 => (some (.ret (.e (.c (.p (.c (.bool b20))))), m)))))))))))))
 ((acmp .no .geq (mkI .u8 v_0) (mkI .u8 65)).bind fun b21 => (cond b21
 ((acmp .no .leq (mkI .u8 v_0) (mkI .u8 90)).bind fun b22 => (cond b22
 (some (.ret (.e (.c (.p (.c (.bool true))))), m))
 ((acmp .no .geq (mkI .u8 v_0) (mkI .u8 48)).bind fun b23 => (cond b23
 ((acmp .no .leq (mkI .u8 v_0) (mkI .u8 57)).bind fun b24 => (cond b24
 (some (.ret (.e (.c (.p (.c (.bool true))))), m))
 ((acmp .no .eql (mkI .u8 v_0) (mkI .u8 46)).bind fun b25 => (cond b25
 (some (.ret (.e (.c (.p (.c (.bool true))))), m))
 ((acmp .no .eql (mkI .u8 v_0) (mkI .u8 95)).bind fun b26 => (cond b26
 (some (.ret (.e (.c (.p (.c (.bool true))))), m))
 ((acmp .no .eql (mkI .u8 v_0) (mkI .u8 45)).bind fun b27 => (some (.ret (.e (.c (.p (.c (.bool b27))))), m)))))))))
 ((acmp .no .eql (mkI .u8 v_0) (mkI .u8 46)).bind fun b28 => (cond b28
 (some (.ret (.e (.c (.p (.c (.bool true))))), m))
 ((acmp .no .eql (mkI .u8 v_0) (mkI .u8 95)).bind fun b29 => (cond b29
 (some (.ret (.e (.c (.p (.c (.bool true))))), m))
 ((acmp .no .eql (mkI .u8 v_0) (mkI .u8 45)).bind fun b30 => (some (.ret (.e (.c (.p (.c (.bool b30))))), m)))))))))))
 ((acmp .no .geq (mkI .u8 v_0) (mkI .u8 48)).bind fun b31 => (cond b31
 ((acmp .no .leq (mkI .u8 v_0) (mkI .u8 57)).bind fun b32 => (cond b32
 (some (.ret (.e (.c (.p (.c (.bool true))))), m))
 ((acmp .no .eql (mkI .u8 v_0) (mkI .u8 46)).bind fun b33 => (cond b33
 (some (.ret (.e (.c (.p (.c (.bool true))))), m))
 ((acmp .no .eql (mkI .u8 v_0) (mkI .u8 95)).bind fun b34 => (cond b34
 (some (.ret (.e (.c (.p (.c (.bool true))))), m))
 ((acmp .no .eql (mkI .u8 v_0) (mkI .u8 45)).bind fun b35 => (some (.ret (.e (.c (.p (.c (.bool b35))))), m)))))))))
 ((acmp .no .eql (mkI .u8 v_0) (mkI .u8 46)).bind fun b36 => (cond b36
 (some (.ret (.e (.c (.p (.c (.bool true))))), m))
 ((acmp .no .eql (mkI .u8 v_0) (mkI .u8 95)).bind fun b37 => (cond b37
 (some (.ret (.e (.c (.p (.c (.bool true))))), m))
 ((acmp .no .eql (mkI .u8 v_0) (mkI .u8 45)).bind fun b38 => (some (.ret (.e (.c (.p (.c (.bool b38))))), m))))))))))))) := (ex_seg E 600 _).trans (by kernel_rfl)
-- 44 veneer/vpath.Check
noncomputable def J44_2 (v_0 : TE) (r_5 : TE) (x6 : Int) (v_7 : Int) (m : Mem) : Option Out := ex E (cfgAt E.P 44 2 (tms 18 [(0, (.e v_0)), (5, (.e r_5)), (6, (mkI .i64 x6)), (7, (mkI .i64 v_7))]) m)
theorem C44 (v_0 : TE) (m : Mem) : ex E (entry E.P 44 [v_0] m) =
 (cond (isPC (.e v_0)) none ((alen (.e v_0)).bind fun n1 => (J44_2 v_0 v_0 n1 0 m))) := (ex_seg E 600 _).trans (by kernel_rfl)
theorem J44_2_eq (v_0 : TE) (r_5 : TE) (x6 : Int) (v_7 : Int) (m : Mem) : J44_2 v_0 r_5 x6 v_7 m =
 ((acmp .no .lss (mkI .i64 v_7) (mkI .i64 x6)).bind fun b1 => (cond b1
 ((aidx 1 (.e r_5) v_7 m).bind fun v2 => ((aload 1 false (.e (.c (v2))) m).bind fun v3 => ((asS (.e v3)).bind fun s4 => (callI A0 E false 83 [.c (.p (.c (.string s4)))] m fun v5 => ((asB v5).bind fun b6 => ((anot (mkB b6)).bind fun b7 => (cond b7
 (some (.ret (.e (.c (.p (.c (.int .i64 41))))), m))
 ((aarith .add .i64 (mkI .i64 v_7) (mkI .i64 1)).bind fun n8 => (J44_2 v_0 r_5 x6 n8 m)))))))))
 (cond (isPC (.e v_0)) none ((alen (.e v_0)).bind fun n9 => ((acmp .no .gtr (mkI .i64 n9) (mkI .i64 8)).bind fun b10 => (cond b10
 (some (.ret (.e (.c (.p (.c (.int .i64 42))))), m))
 (some (.ret (.e (.c (.p (.c (.int .i64 0))))), m)))))))) := (ex_seg E 600 _).trans (by kernel_rfl)
-- 46 slices.Equal[[]string,string]
noncomputable def J46_4 (s_0 : TE) (l_1 : TE) (s_12 : Int) (x13 : Int) (m : Mem) : Option Out := ex E (cfgAt E.P 46 4 (tms 26 [(0, (.e s_0)), (1, (.e l_1)), (12, (mkI .i64 s_12)), (13, (mkI .i64 x13))]) m)
theorem C46 (s_0 : TE) (l_1 : TE) (m : Mem) : ex E (entry E.P 46 [s_0, l_1] m) =
 (cond (isPC (.e s_0)) none ((alen (.e s_0)).bind fun n1 => (cond (isPC (.e l_1)) none ((alen (.e l_1)).bind fun n2 => ((acmp .no .neq (mkI .i64 n1) (mkI .i64 n2)).bind fun b3 => (cond b3
 (some (.ret (.e (.c (.p (.c (.bool false))))), m))
 (cond (isPC (.e s_0)) none ((alen (.e s_0)).bind fun n4 => (J46_4 s_0 l_1 n4 0 m))))))))) := (ex_seg E 600 _).trans (by kernel_rfl)
theorem J46_4_eq (s_0 : TE) (l_1 : TE) (s_12 : Int) (x13 : Int) (m : Mem) : J46_4 s_0 l_1 s_12 x13 m =
 ((acmp .no .lss (mkI .i64 x13) (mkI .i64 s_12)).bind fun b1 => (cond b1
 ((aidx 1 (.e s_0) x13 m).bind fun v2 => ((aload 1 false (.e (.c (v2))) m).bind fun v3 => ((asS (.e v3)).bind fun s4 => ((aidx 1 (.e l_1) x13 m).bind fun v5 => ((aload 1 false (.e (.c (v5))) m).bind fun v6 => ((asS (.e v6)).bind fun s7 => ((acmp .no .neq (mkS s4) (mkS s7)).bind fun b8 => (cond b8
 (some (.ret (.e (.c (.p (.c (.bool false))))), m))
 ((aarith .add .i64 (mkI .i64 x13) (mkI .i64 1)).bind fun n9 => (J46_4 s_0 l_1 s_12 n9 m))))))))))
 (some (.ret (.e (.c (.p (.c (.bool true))))), m)))) := (ex_seg E 600 _).trans (by kernel_rfl)
-- 47 slices.CompareFunc[[]string,[]string,string,string]
noncomputable def J47_2 (s_0 : TE) (l_1 : TE) (e_11 : TE) (s_12 : Int) (x13 : Int) (m : Mem) : Option Out := ex E (cfgAt E.P 47 2 (tms 39 [(0, (.e s_0)), (1, (.e l_1)), (2, (.e (.c (.clo 48 [] [])))), (11, (.e e_11)), (12, (mkI .i64 s_12)), (13, (mkI .i64 x13))]) m)
theorem C47 (s_0 : TE) (l_1 : TE) (m : Mem) : ex E (entry E.P 47 [s_0, l_1, .c (.clo 48 [] [])] m) =
 (cond (isPC (.e s_0)) none ((alen (.e s_0)).bind fun n1 => (J47_2 s_0 l_1 s_0 n1 0 m))) := (ex_seg E 600 _).trans (by kernel_rfl)
theorem J47_2_eq (s_0 : TE) (l_1 : TE) (e_11 : TE) (s_12 : Int) (x13 : Int) (m : Mem) : J47_2 s_0 l_1 e_11 s_12 x13 m =
 ((acmp .no .lss (mkI .i64 x13) (mkI .i64 s_12)).bind fun b1 => (cond b1
 ((aidx 1 (.e e_11) x13 m).bind fun v2 => ((aload 1 false (.e (.c (v2))) m).bind fun v3 => ((asS (.e v3)).bind fun s4 => (cond (isPC (.e l_1)) none ((alen (.e l_1)).bind fun n5 => ((acmp .no .geq (mkI .i64 x13) (mkI .i64 n5)).bind fun b6 => (cond b6
 (some (.ret (.e (.c (.p (.c (.int .i64 1))))), m))
 ((aidx 1 (.e l_1) x13 m).bind fun v7 => ((aload 1 false (.e (.c (v7))) m).bind fun v8 => ((asS (.e v8)).bind fun s9 => (callI A0 E false 48 [.c (.p (.c (.string s4))), .c (.p (.c (.string s9)))] m fun v10 => ((asK .i64 v10).bind fun n11 => ((acmp .no .neq (mkI .i64 n11) (mkI .i64 0)).bind fun b12 => (cond b12
 (some (.ret (.e (.c (.p (.c (.int .i64 n11))))), m))
 ((aarith .add .i64 (mkI .i64 x13) (mkI .i64 1)).bind fun n13 => (J47_2 s_0 l_1 e_11 s_12 n13 m))))))))))))))))
 (cond (isPC (.e s_0)) none ((alen (.e s_0)).bind fun n14 => (cond (isPC (.e l_1)) none ((alen (.e l_1)).bind fun n15 => ((acmp .no .lss (mkI .i64 n14) (mkI .i64 n15)).bind fun b16 => (cond b16
 (some (.ret (.e (.c (.p (.c (.int .i64 (-1)))))), m))
 (some (.ret (.e (.c (.p (.c (.int .i64 0))))), m)))))))))) := (ex_seg E 600 _).trans (by kernel_rfl)
-- 48 cmp.Compare[string]
theorem C48 (c_0 : ByteArray) (m_1 : ByteArray) (m : Mem) : ex E (entry E.P 48 [.c (.p (.c (.string c_0))), .c (.p (.c (.string m_1)))] m) =
 (callI A0 E false 84 [.c (.p (.c (.string c_0)))] m fun v1 => ((asB v1).bind fun b2 => (callI A0 E false 84 [.c (.p (.c (.string m_1)))] m fun v3 => ((asB v3).bind fun b4 => (cond b2
 (cond b4
 (some (.ret (.e (.c (.p (.c (.int .i64 0))))), m))
 (some (.ret (.e (.c (.p (.c (.int .i64 (-1)))))), m)))
 (cond b4
 (some (.ret (.e (.c (.p (.c (.int .i64 1))))), m))
 ((acmp .no .lss (mkS c_0) (mkS m_1)).bind fun b5 => (cond b5
 (some (.ret (.e (.c (.p (.c (.int .i64 (-1)))))), m))
 ((acmp .no .gtr (mkS c_0) (mkS m_1)).bind fun b6 => (cond b6
 (some (.ret (.e (.c (.p (.c (.int .i64 1))))), m))
 (some (.ret (.e (.c (.p (.c (.int .i64 0))))), m)))))))))))) := (ex_seg E 600 _).trans (by kernel_rfl)
-- 83 veneer/vpath.name
noncomputable def J83_4 (v_0 : ByteArray) (o_20 : Int) (x21 : Int) (m : Mem) : Option Out := ex E (cfgAt E.P 83 4 (tms 30 [(0, (mkS v_0)), (20, (mkI .i64 o_20)), (21, (mkI .i64 x21))]) m)
theorem C83 (v_0 : ByteArray) (m : Mem) : ex E (entry E.P 83 [.c (.p (.c (.string v_0)))] m) =
 ((acmp .no .eql (mkS v_0) (mkS ⟨#[]⟩)).bind fun b1 => (cond b1
 (some (.ret (.e (.c (.p (.c (.bool false))))), m))
 ((alen (mkS v_0)).bind fun n2 => ((acmp .no .gtr (mkI .i64 n2) (mkI .i64 16)).bind fun b3 => (cond b3
 (some (.ret (.e (.c (.p (.c (.bool false))))), m))
 ((acmp .no .eql (mkS v_0) (mkS ⟨#[46]⟩)).bind fun b4 => (cond b4
 (some (.ret (.e (.c (.p (.c (.bool false))))), m))
 ((acmp .no .eql (mkS v_0) (mkS ⟨#[46, 46]⟩)).bind fun b5 => (cond b5
 (some (.ret (.e (.c (.p (.c (.bool false))))), m))
 ((alen (mkS v_0)).bind fun n6 => (J83_4 v_0 n6 0 m))))))))))) := (ex_seg E 600 _).trans (by kernel_rfl)
theorem J83_4_eq (v_0 : ByteArray) (o_20 : Int) (x21 : Int) (m : Mem) : J83_4 v_0 o_20 x21 m =
 ((acmp .no .lss (mkI .i64 x21) (mkI .i64 o_20)).bind fun b1 => (cond b1
 ((aidxS (mkS v_0) x21).bind fun n2 => (callI A0 E false 40 [.c (.p (.c (.int .u8 n2)))] m fun v3 => ((asB v3).bind fun b4 => ((anot (mkB b4)).bind fun b5 => (cond b5
 (some (.ret (.e (.c (.p (.c (.bool false))))), m))
 ((aarith .add .i64 (mkI .i64 x21) (mkI .i64 1)).bind fun n6 => (J83_4 v_0 o_20 n6 m)))))))
 (some (.ret (.e (.c (.p (.c (.bool true))))), m)))) := (ex_seg E 600 _).trans (by kernel_rfl)
-- 84 cmp.isNaN[string]
theorem C84 (c_0 : ByteArray) (m : Mem) : ex E (entry E.P 84 [.c (.p (.c (.string c_0)))] m) =
 ((acmp .no .neq (mkS c_0) (mkS c_0)).bind fun b1 => (some (.ret (.e (.c (.p (.c (.bool b1))))), m))) := (ex_seg E 600 _).trans (by kernel_rfl)
end Go.Ab
