/- What the functions of the view laws come to. -/
import Derived.Test.YtjbilloofeedgaaVx
import Derived.Test.YtjbilloofeedgaaProg
set_option linter.unusedVariables false
set_option linter.unusedSimpArgs false
set_option linter.unusedVariables false
set_option maxRecDepth 100000
namespace Go.Ab
open Go
def keepL : List (Nat × Nat × List Nat) := [(8, 12, [0, 1, 5, 6, 7, 8, 9]), (9, 10, [0, 1, 5, 6, 7, 8, 9]), (9, 14, [0, 1, 5, 6, 7, 8, 9]), (9, 16, [0, 1, 5, 6, 7, 8, 9]), (10, 10, [0, 1, 5, 6, 7, 8, 9]), (10, 14, [0, 1, 5, 6, 7, 8, 9]), (10, 16, [0, 1, 5, 6, 7, 8, 9]), (10, 11, [0, 1, 5, 6, 7, 8, 9]), (33, 8, [7]), (34, 2, [0, 1, 2, 3, 9]), (36, 3, [0, 3, 4]), (36, 4, [0, 3, 4]), (38, 4, [0, 3, 4, 5]), (38, 8, [0, 3, 4, 5, 6, 7]), (38, 9, [0, 3, 4, 5, 6, 7]), (38, 5, [0, 3, 4, 5]), (72, 2, [0, 3, 7, 8]), (73, 5, [0, 1, 4, 5, 6]), (73, 6, [0, 1, 4, 5, 6]), (90, 3, [3, 6, 7, 8])]
def isoL : List Nat := [6, 7, 8, 9, 10, 26, 27, 28, 29, 30, 31, 32, 33, 34, 35, 36, 37, 38, 72, 74, 90, 91, 92, 99, 100]
def roL : List Nat := []
def alL : List Nat := []
noncomputable def E : Env := { P := Go.Proofs.Try.prog, keep := keepIn keepL, mode := fun f => cond (isoL.contains f) .iso (cond (roL.contains f) .ro (cond (alL.contains f) .al .rw)), ext := extF }
noncomputable abbrev A0 : Alg (Option Out) := optA (ex E) (ex E)
-- 6 veneer/veneerlaw19.ViewLeads
theorem C6 (v_0 : Int) (e_1 : Int) (n_2 : Int) (m : Mem) : ex E (entry E.P 6 [.c (.p (.c (.int .i64 v_0))), .c (.p (.c (.int .i64 e_1))), .c (.p (.c (.int .i64 n_2)))] m) =
 (callI A0 E false 26 [] m fun v1 => ((asB v1).bind fun b2 => (cond b2
 (callI A0 E false 27 [.c (.p (.c (.int .i64 v_0))), .c (.p (.c (.int .i64 e_1)))] m fun v3 => ((asK .i64 v3).bind fun n4 => (callI A0 E false 28 [.c (.p (.c (.int .i64 v_0))), .c (.p (.c (.int .i64 e_1)))] m fun v5 => ((asK .i64 v5).bind fun n6 => ((acmp .no .eql (mkI .i64 n4) (mkI .i64 n6)).bind fun b7 => (cond b7
 (callI A0 E false 29 [.c (.p (.c (.int .i64 e_1)))] m fun v8 => ((asK .i64 v8).bind fun n9 => (callI A0 E false 30 [.c (.p (.c (.int .i64 e_1)))] m fun v10 => ((asK .i64 v10).bind fun n11 => ((acmp .no .eql (mkI .i64 n9) (mkI .i64 n11)).bind fun b12 => (cond b12
 (callI A0 E false 31 [.c (.p (.c (.int .i64 n_2)))] m fun v13 => ((asK .i64 v13).bind fun n14 => (callI A0 E false 32 [.c (.p (.c (.int .i64 n_2)))] m fun v15 => ((asK .i64 v15).bind fun n16 => ((acmp .no .eql (mkI .i64 n14) (mkI .i64 n16)).bind fun b17 => (some (.ret (.e (.c (.p (.c (.bool b17))))), m)))))))
 (some (.ret (.e (.c (.p (.c (.bool false))))), m))))))))
 (some (.ret (.e (.c (.p (.c (.bool false))))), m))))))))
 (some (.ret (.e (.c (.p (.c (.bool false))))), m))))) := (ex_seg E 600 _).trans (by kernel_rfl)
-- 7 veneer/veneerlaw19.ViewTurns
theorem C7 (v_0 : Int) (e_1 : Int) (n_2 : Int) (m : Mem) : ex E (entry E.P 7 [.c (.p (.c (.int .i64 v_0))), .c (.p (.c (.int .i64 e_1))), .c (.p (.c (.int .i64 n_2)))] m) =
 (callI A0 E false 26 [] m fun v1 => ((asB v1).bind fun b2 => ((anot (mkB b2)).bind fun b3 => (cond b3
 (some (.ret (.e (.c (.p (.c (.bool false))))), m))
 (callI A0 E false 33 [.c (.p (.c (.int .i64 v_0))), .c (.p (.c (.int .i64 e_1))), .c (.p (.c (.int .i64 n_2)))] m fun v4 => ((asK .i64 v4).bind fun n5 => ((acmp .no .lss (mkI .i64 v_0) (mkI .i64 0)).bind fun b6 => (cond b6
 ((acmp .no .eql (mkI .i64 n5) (mkI .i64 (-1))).bind fun b7 => (some (.ret (.e (.c (.p (.c (.bool b7))))), m)))
 ((acmp .no .gtr (mkI .i64 v_0) (mkI .i64 1099511627776)).bind fun b8 => (cond b8
 ((acmp .no .eql (mkI .i64 n5) (mkI .i64 (-1))).bind fun b9 => (some (.ret (.e (.c (.p (.c (.bool b9))))), m)))
 ((acmp .no .lss (mkI .i64 e_1) (mkI .i64 0)).bind fun b10 => (cond b10
 ((acmp .no .eql (mkI .i64 n5) (mkI .i64 (-1))).bind fun b11 => (some (.ret (.e (.c (.p (.c (.bool b11))))), m)))
 ((acmp .no .geq (mkI .i64 e_1) (mkI .i64 n_2)).bind fun b12 => (cond b12
 ((acmp .no .eql (mkI .i64 n5) (mkI .i64 (-1))).bind fun b13 => (some (.ret (.e (.c (.p (.c (.bool b13))))), m)))
 ((acmp .no .eql (mkI .i64 n5) (mkI .i64 (-1))).bind fun b14 => (cond b14
 ((aarith .sub .i64 (mkI .i64 1099511627776) (mkI .i64 v_0)).bind fun n15 => ((acmp .no .lss (mkI .i64 n15) (mkI .i64 n_2)).bind fun b16 => (cond b16
 ((acmp .no .eql (mkI .i64 n15) (mkI .i64 0)).bind fun b17 => (cond b17
 (some (.ret (.e (.c (.p (.c (.bool true))))), m))
 (callI A0 E false 34 [.c (.p (.c (.int .i64 v_0))), .c (.p (.c (.int .i64 n15))), .c (.p (.c (.int .i64 e_1))), .c (.p (.c (.int .i64 n_2)))] m fun v18 => ((asB v18).bind fun b19 => ((anot (mkB b19)).bind fun b20 => (some (.ret (.e (.c (.p (.c (.bool b20))))), m)))))))
 (some (.ret (.e (.c (.p (.c (.bool false))))), m)))))
 ((acmp .no .gtr (mkI .i64 n5) (mkI .i64 v_0)).bind fun b21 => (cond b21
 ((acmp .no .leq (mkI .i64 n5) (mkI .i64 1099511627776)).bind fun b22 => (cond b22
 ((aarith .sub .i64 (mkI .i64 n5) (mkI .i64 v_0)).bind fun n23 => ((acmp .no .leq (mkI .i64 n23) (mkI .i64 n_2)).bind fun b24 => (cond b24
 (callI A0 E false 27 [.c (.p (.c (.int .i64 n5))), .c (.p (.c (.int .i64 n_2)))] m fun v25 => ((asK .i64 v25).bind fun n26 => ((acmp .no .eql (mkI .i64 n26) (mkI .i64 e_1)).bind fun b27 => (cond b27
 ((aarith .sub .i64 (mkI .i64 n5) (mkI .i64 v_0)).bind fun n28 => ((aarith .sub .i64 (mkI .i64 n28) (mkI .i64 1)).bind fun n29 => ((aminI .i64 [(mkI .i64 n29), (mkI .i64 100)]).bind fun n30 => (callI A0 E false 34 [.c (.p (.c (.int .i64 v_0))), .c (.p (.c (.int .i64 n30))), .c (.p (.c (.int .i64 e_1))), .c (.p (.c (.int .i64 n_2)))] m fun v31 => ((asB v31).bind fun b32 => ((anot (mkB b32)).bind fun b33 => (some (.ret (.e (.c (.p (.c (.bool b33))))), m))))))))
 (some (.ret (.e (.c (.p (.c (.bool false))))), m))))))
 (some (.ret (.e (.c (.p (.c (.bool false))))), m)))))
 (some (.ret (.e (.c (.p (.c (.bool false))))), m))))
 (some (.ret (.e (.c (.p (.c (.bool false))))), m)))))))))))))))))))) := (ex_seg E 600 _).trans (by kernel_rfl)
-- 8 veneer/veneerlaw19.ViewBest
noncomputable def J8_12 (v_0 : TE) (e_1 : Int) (r_5 : TE) (x6 : Int) (v_7 : Int) (e_8 : TE) (n_9 : Int) (m : Mem) : Option Out := ex E (cfgAt E.P 8 12 (tms 67 [(0, (.e v_0)), (1, (mkI .i64 e_1)), (5, (.e r_5)), (6, (mkI .i64 x6)), (7, (mkI .i64 v_7)), (8, (.e e_8)), (9, (mkI .i64 n_9))]) m)
theorem C8 (v_0 : TE) (e_1 : Int) (m : Mem) : ex E (entry E.P 8 [v_0, .c (.p (.c (.int .i64 e_1)))] m) =
 (callI A0 E false 26 [] m fun v1 => ((asB v1).bind fun b2 => ((anot (mkB b2)).bind fun b3 => (cond b3
 (some (.ret (.e (.c (.p (.c (.bool false))))), m))
 ((afillS 3 (List.replicate 0 [.p (.c (.int .i64 0)), .p (.c (.int .i64 0)), .p (.c (.int .i64 0))]) []).bind fun es4 => ((aappend 55 3 24 (.e (.c (.oref m.length 0 0 0))) (.e v_0) (m ++ [AObj.mk 0 3 55 true es4])).bind fun ap5 => (callI A0 E false 35 [.c (ap5.1)] ap5.2 fun v6 => ((asK .i64 v6).bind fun n7 => (callI A0 E false 36 [v_0] ap5.2 fun v8 => ((asK .i64 v8).bind fun n9 => ((acmp .no .neq (mkI .i64 n7) (mkI .i64 n9)).bind fun b10 => (cond b10
 (some (.ret (.e (.c (.p (.c (.bool false))))), ap5.2))
 (cond (isPC (.e v_0)) none ((alen (.e v_0)).bind fun n11 => ((acmp .no .eql (mkI .i64 n11) (mkI .i64 0)).bind fun b12 => (cond b12
 ((acmp .no .eql (mkI .i64 n7) (mkI .i64 (-1))).bind fun b13 => (some (.ret (.e (.c (.p (.c (.bool b13))))), ap5.2)))
 (J8_12 v_0 e_1 (.c (ap5.1)) n7 n11 (.c (.tsl [])) 0 ap5.2))))))))))))))))) := (ex_seg E 600 _).trans (by kernel_rfl)
theorem J8_12_eq (v_0 : TE) (e_1 : Int) (r_5 : TE) (x6 : Int) (v_7 : Int) (e_8 : TE) (n_9 : Int) (m : Mem) : J8_12 v_0 e_1 r_5 x6 v_7 e_8 n_9 m =
 ((acmp .no .lss (mkI .i64 n_9) (mkI .i64 v_7)).bind fun b1 => (cond b1
 ((aidx 3 (.e r_5) n_9 m).bind fun v2 => ((aload 3 true (.e (.c (v2))) m).bind fun v3 => ((aidx 3 (.e v_0) n_9 m).bind fun v4 => ((aload 3 true (.e (.c (v4))) m).bind fun v5 => ((acmp (.s [true, true, true]) .neq (.e v3) (.e v5)).bind fun b6 => (cond b6
 (some (.ret (.e (.c (.p (.c (.bool false))))), m))
 ((aconvI .u64 (mkI .i64 e_1)).bind fun n7 => ((aconvI .u64 (mkI .i64 v_7)).bind fun n8 => ((aarith .rem .u64 (mkI .u64 n7) (mkI .u64 n8)).bind fun n9 => ((aconvI .i64 (mkI .u64 n9)).bind fun n10 => ((aarith .add .i64 (mkI .i64 n_9) (mkI .i64 n10)).bind fun n11 => ((aarith .rem .i64 (mkI .i64 n11) (mkI .i64 v_7)).bind fun n12 => ((aidx 3 (.e v_0) n12 m).bind fun v13 => ((aload 3 true (.e (.c (v13))) m).bind fun v14 => ((afillS 3 (List.replicate 1 [.p (.c (.int .i64 0)), .p (.c (.int .i64 0)), .p (.c (.int .i64 0))]) [(0, (.e v14))]).bind fun es15 => ((aappend 55 3 24 (.e e_8) (.e (.c (.oref m.length 0 0 1))) (m ++ [AObj.mk 0 3 55 true es15])).bind fun ap16 => ((aarith .add .i64 (mkI .i64 n_9) (mkI .i64 1)).bind fun n17 => (J8_12 v_0 e_1 r_5 x6 v_7 (.c (ap16.1)) n17 ap16.2))))))))))))))))))
 (callI A0 E true 35 [e_8] m fun v18 => ((asK .i64 v18).bind fun n19 => ((aidx 3 (.e e_8) n19 m).bind fun v20 => ((aload 3 true (.e (.c (v20))) m).bind fun v21 => ((aidx 3 (.e v_0) x6 m).bind fun v22 => ((aload 3 true (.e (.c (v22))) m).bind fun v23 => ((acmp (.s [true, true, true]) .eql (.e v21) (.e v23)).bind fun b24 => (some (.ret (.e (.c (.p (.c (.bool b24))))), m))))))))))) := (ex_seg E 600 _).trans (by kernel_rfl)
-- 9 veneer/veneerlaw19.ViewReached
noncomputable def J9_10 (v_0 : TE) (e_1 : Int) (r_5 : Int) (x6 : Int) (v_7 : Int) (e_8 : TE) (n_9 : Int) (m : Mem) : Option Out := ex E (cfgAt E.P 9 10 (tms 81 [(0, (.e v_0)), (1, (mkI .i64 e_1)), (5, (mkI .i64 r_5)), (6, (mkI .i64 x6)), (7, (mkI .i64 v_7)), (8, (.e e_8)), (9, (mkI .i64 n_9))]) m)
noncomputable def J9_14 (v_0 : TE) (e_1 : Int) (r_5 : Int) (x6 : Int) (v_7 : Int) (e_8 : TE) (n_9 : Int) (m : Mem) : Option Out := ex E (cfgAt E.P 9 14 (tms 81 [(0, (.e v_0)), (1, (mkI .i64 e_1)), (5, (mkI .i64 r_5)), (6, (mkI .i64 x6)), (7, (mkI .i64 v_7)), (8, (.e e_8)), (9, (mkI .i64 n_9))]) m)
noncomputable def J9_16 (v_0 : TE) (e_1 : Int) (r_5 : Int) (x6 : Int) (v_7 : Int) (e_8 : TE) (n_9 : Int) (m : Mem) : Option Out := ex E (cfgAt E.P 9 16 (tms 81 [(0, (.e v_0)), (1, (mkI .i64 e_1)), (5, (mkI .i64 r_5)), (6, (mkI .i64 x6)), (7, (mkI .i64 v_7)), (8, (.e e_8)), (9, (mkI .i64 n_9))]) m)
theorem C9 (v_0 : TE) (e_1 : Int) (m : Mem) : ex E (entry E.P 9 [v_0, .c (.p (.c (.int .i64 e_1)))] m) =
 (callI A0 E false 26 [] m fun v1 => ((asB v1).bind fun b2 => ((anot (mkB b2)).bind fun b3 => (cond b3
 (some (.ret (.e (.c (.p (.c (.bool false))))), m))
 (callI A0 E false 37 [v_0] m fun v4 => ((asK .i64 v4).bind fun n5 => (callI A0 E false 38 [v_0] m fun v6 => ((asK .i64 v6).bind fun n7 => ((acmp .no .neq (mkI .i64 n5) (mkI .i64 n7)).bind fun b8 => (cond b8
 (some (.ret (.e (.c (.p (.c (.bool false))))), m))
 (J9_10 v_0 e_1 n5 0 0 (.c (.tsl [])) 0 m))))))))))) := (ex_seg E 600 _).trans (by kernel_rfl)
theorem J9_10_eq (v_0 : TE) (e_1 : Int) (r_5 : Int) (x6 : Int) (v_7 : Int) (e_8 : TE) (n_9 : Int) (m : Mem) : J9_10 v_0 e_1 r_5 x6 v_7 e_8 n_9 m =
 (cond (isPC (.e v_0)) none ((alen (.e v_0)).bind fun n1 => ((acmp .no .lss (mkI .i64 n_9) (mkI .i64 n1)).bind fun b2 => (cond b2
 ((aidx 1 (.e v_0) n_9 m).bind fun v3 => ((aload 1 false (.e (.c (v3))) m).bind fun v4 => ((asK .i64 (.e v4)).bind fun n5 => ((acmp .no .geq (mkI .i64 n5) (mkI .i64 r_5)).bind fun b6 => (cond b6
 ((aarith .add .i64 (mkI .i64 x6) (mkI .i64 1)).bind fun n7 => (J9_14 v_0 e_1 r_5 n7 v_7 e_8 n_9 m))
 (J9_14 v_0 e_1 r_5 x6 v_7 e_8 n_9 m))))))
 (callI A0 E false 37 [e_8] m fun v8 => ((asK .i64 v8).bind fun n9 => ((acmp .no .eql (mkI .i64 n9) (mkI .i64 r_5)).bind fun b10 => (cond b10
 (cond (isPC (.e v_0)) none ((alen (.e v_0)).bind fun n11 => ((acmp .no .eql (mkI .i64 n11) (mkI .i64 0)).bind fun b12 => (cond b12
 (some (.ret (.e (.c (.p (.c (.bool true))))), m))
 (cond (isPC (.e v_0)) none ((alen (.e v_0)).bind fun n13 => (callI A0 E false 29 [.c (.p (.c (.int .i64 n13)))] m fun v14 => ((asK .i64 v14).bind fun n15 => ((acmp .no .geq (mkI .i64 x6) (mkI .i64 n15)).bind fun b16 => (cond b16
 (cond (isPC (.e v_0)) none ((alen (.e v_0)).bind fun n17 => (callI A0 E false 29 [.c (.p (.c (.int .i64 n17)))] m fun v18 => ((asK .i64 v18).bind fun n19 => ((acmp .no .lss (mkI .i64 v_7) (mkI .i64 n19)).bind fun b20 => (some (.ret (.e (.c (.p (.c (.bool b20))))), m)))))))
 (some (.ret (.e (.c (.p (.c (.bool false))))), m))))))))))))
 (some (.ret (.e (.c (.p (.c (.bool false))))), m)))))))))) := (ex_seg E 600 _).trans (by kernel_rfl)
theorem J9_14_eq (v_0 : TE) (e_1 : Int) (r_5 : Int) (x6 : Int) (v_7 : Int) (e_8 : TE) (n_9 : Int) (m : Mem) : J9_14 v_0 e_1 r_5 x6 v_7 e_8 n_9 m =
 ((aidx 1 (.e v_0) n_9 m).bind fun v1 => ((aload 1 false (.e (.c (v1))) m).bind fun v2 => ((asK .i64 (.e v2)).bind fun n3 => ((acmp .no .gtr (mkI .i64 n3) (mkI .i64 r_5)).bind fun b4 => (cond b4
 ((aarith .add .i64 (mkI .i64 v_7) (mkI .i64 1)).bind fun n5 => (J9_16 v_0 e_1 r_5 x6 n5 e_8 n_9 m))
 (J9_16 v_0 e_1 r_5 x6 v_7 e_8 n_9 m)))))) := (ex_seg E 600 _).trans (by kernel_rfl)
theorem J9_16_eq (v_0 : TE) (e_1 : Int) (r_5 : Int) (x6 : Int) (v_7 : Int) (e_8 : TE) (n_9 : Int) (m : Mem) : J9_16 v_0 e_1 r_5 x6 v_7 e_8 n_9 m =
 ((aconvI .u64 (mkI .i64 e_1)).bind fun n1 => (cond (isPC (.e v_0)) none ((alen (.e v_0)).bind fun n2 => ((aconvI .u64 (mkI .i64 n2)).bind fun n3 => ((aarith .rem .u64 (mkI .u64 n1) (mkI .u64 n3)).bind fun n4 => ((aconvI .i64 (mkI .u64 n4)).bind fun n5 => ((aarith .add .i64 (mkI .i64 n_9) (mkI .i64 n5)).bind fun n6 => (cond (isPC (.e v_0)) none ((alen (.e v_0)).bind fun n7 => ((aarith .rem .i64 (mkI .i64 n6) (mkI .i64 n7)).bind fun n8 => ((aidx 1 (.e v_0) n8 m).bind fun v9 => ((aload 1 false (.e (.c (v9))) m).bind fun v10 => ((asK .i64 (.e v10)).bind fun n11 => ((afillS 1 (List.replicate 1 [.p (.c (.int .i64 0))]) [(0, (mkI .i64 n11))]).bind fun es12 => ((aappend 2 1 8 (.e e_8) (.e (.c (.oref m.length 0 0 1))) (m ++ [AObj.mk 0 1 2 true es12])).bind fun ap13 => ((aarith .add .i64 (mkI .i64 n_9) (mkI .i64 1)).bind fun n14 => (J9_10 v_0 e_1 r_5 x6 v_7 (.c (ap13.1)) n14 ap13.2))))))))))))))))) := (ex_seg E 600 _).trans (by kernel_rfl)
-- 10 veneer/veneerlaw19.ViewMeets
noncomputable def J10_10 (v_0 : TE) (e_1 : TE) (r_5 : Int) (x6 : Int) (v_7 : Int) (e_8 : Int) (n_9 : Int) (m : Mem) : Option Out := ex E (cfgAt E.P 10 10 (tms 81 [(0, (.e v_0)), (1, (.e e_1)), (5, (mkI .i64 r_5)), (6, (mkI .i64 x6)), (7, (mkI .i64 v_7)), (8, (mkI .i64 e_8)), (9, (mkI .i64 n_9))]) m)
noncomputable def J10_14 (v_0 : TE) (e_1 : TE) (r_5 : Int) (x6 : Int) (v_7 : Int) (e_8 : Int) (n_9 : Int) (m : Mem) : Option Out := ex E (cfgAt E.P 10 14 (tms 81 [(0, (.e v_0)), (1, (.e e_1)), (5, (mkI .i64 r_5)), (6, (mkI .i64 x6)), (7, (mkI .i64 v_7)), (8, (mkI .i64 e_8)), (9, (mkI .i64 n_9))]) m)
noncomputable def J10_16 (v_0 : TE) (e_1 : TE) (r_5 : Int) (x6 : Int) (v_7 : Int) (e_8 : Int) (n_9 : Int) (m : Mem) : Option Out := ex E (cfgAt E.P 10 16 (tms 81 [(0, (.e v_0)), (1, (.e e_1)), (5, (mkI .i64 r_5)), (6, (mkI .i64 x6)), (7, (mkI .i64 v_7)), (8, (mkI .i64 e_8)), (9, (mkI .i64 n_9))]) m)
noncomputable def J10_11 (v_0 : TE) (e_1 : TE) (r_5 : Int) (x6 : Int) (v_7 : Int) (e_8 : Int) (n_9 : Int) (m : Mem) : Option Out := ex E (cfgAt E.P 10 11 (tms 81 [(0, (.e v_0)), (1, (.e e_1)), (5, (mkI .i64 r_5)), (6, (mkI .i64 x6)), (7, (mkI .i64 v_7)), (8, (mkI .i64 e_8)), (9, (mkI .i64 n_9))]) m)
theorem C10 (v_0 : TE) (e_1 : TE) (m : Mem) : ex E (entry E.P 10 [v_0, e_1] m) =
 (callI A0 E false 26 [] m fun v1 => ((asB v1).bind fun b2 => ((anot (mkB b2)).bind fun b3 => (cond b3
 (some (.ret (.e (.c (.p (.c (.bool false))))), m))
 (cond (isPC (.e v_0)) none ((alen (.e v_0)).bind fun n4 => ((acmp .no .eql (mkI .i64 n4) (mkI .i64 0)).bind fun b5 => (cond b5
 (callI A0 E false 29 [.c (.p (.c (.int .i64 0)))] m fun v6 => ((asK .i64 v6).bind fun n7 => ((acmp .no .eql (mkI .i64 n7) (mkI .i64 0)).bind fun b8 => (some (.ret (.e (.c (.p (.c (.bool b8))))), m)))))
 (cond (isPC (.e e_1)) none ((alen (.e e_1)).bind fun n9 => ((acmp .no .neq (mkI .i64 n9) (mkI .i64 n4)).bind fun b10 => (cond b10
 (callI A0 E false 29 [.c (.p (.c (.int .i64 0)))] m fun v11 => ((asK .i64 v11).bind fun n12 => ((acmp .no .eql (mkI .i64 n12) (mkI .i64 0)).bind fun b13 => (some (.ret (.e (.c (.p (.c (.bool b13))))), m)))))
 (J10_10 v_0 e_1 n4 0 0 0 0 m))))))))))))) := (ex_seg E 600 _).trans (by kernel_rfl)
theorem J10_10_eq (v_0 : TE) (e_1 : TE) (r_5 : Int) (x6 : Int) (v_7 : Int) (e_8 : Int) (n_9 : Int) (m : Mem) : J10_10 v_0 e_1 r_5 x6 v_7 e_8 n_9 m =
 ((acmp .no .lss (mkI .i64 n_9) (mkI .i64 r_5)).bind fun b1 => (cond b1
 ((aidx 1 (.e v_0) n_9 m).bind fun v2 => ((aload 1 false (.e (.c (v2))) m).bind fun v3 => ((asB (.e v3)).bind fun b4 => (cond b4
 ((aarith .add .i64 (mkI .i64 x6) (mkI .i64 1)).bind fun n5 => (J10_14 v_0 e_1 r_5 n5 v_7 e_8 n_9 m))
 (J10_14 v_0 e_1 r_5 x6 v_7 e_8 n_9 m)))))
 (callI A0 E false 29 [.c (.p (.c (.int .i64 r_5)))] m fun v6 => ((asK .i64 v6).bind fun n7 => ((aarith .mul .i64 (mkI .i64 2) (mkI .i64 n7)).bind fun n8 => ((acmp .no .gtr (mkI .i64 n8) (mkI .i64 r_5)).bind fun b9 => (cond b9
 ((aarith .sub .i64 (mkI .i64 n7) (mkI .i64 1)).bind fun n10 => ((aarith .mul .i64 (mkI .i64 2) (mkI .i64 n10)).bind fun n11 => ((acmp .no .leq (mkI .i64 n11) (mkI .i64 r_5)).bind fun b12 => (cond b12
 ((acmp .no .lss (mkI .i64 x6) (mkI .i64 n7)).bind fun b13 => (cond b13
 (some (.ret (.e (.c (.p (.c (.bool true))))), m))
 ((acmp .no .lss (mkI .i64 v_7) (mkI .i64 n7)).bind fun b14 => (cond b14
 (some (.ret (.e (.c (.p (.c (.bool true))))), m))
 ((acmp .no .gtr (mkI .i64 e_8) (mkI .i64 0)).bind fun b15 => (some (.ret (.e (.c (.p (.c (.bool b15))))), m)))))))
 (some (.ret (.e (.c (.p (.c (.bool false))))), m))))))
 (some (.ret (.e (.c (.p (.c (.bool false))))), m))))))))) := (ex_seg E 600 _).trans (by kernel_rfl)
theorem J10_14_eq (v_0 : TE) (e_1 : TE) (r_5 : Int) (x6 : Int) (v_7 : Int) (e_8 : Int) (n_9 : Int) (m : Mem) : J10_14 v_0 e_1 r_5 x6 v_7 e_8 n_9 m =
 ((aidx 1 (.e e_1) n_9 m).bind fun v1 => ((aload 1 false (.e (.c (v1))) m).bind fun v2 => ((asB (.e v2)).bind fun b3 => (cond b3
 ((aarith .add .i64 (mkI .i64 v_7) (mkI .i64 1)).bind fun n4 => (J10_16 v_0 e_1 r_5 x6 n4 e_8 n_9 m))
 (J10_16 v_0 e_1 r_5 x6 v_7 e_8 n_9 m))))) := (ex_seg E 600 _).trans (by kernel_rfl)
theorem J10_16_eq (v_0 : TE) (e_1 : TE) (r_5 : Int) (x6 : Int) (v_7 : Int) (e_8 : Int) (n_9 : Int) (m : Mem) : J10_16 v_0 e_1 r_5 x6 v_7 e_8 n_9 m =
 ((aidx 1 (.e v_0) n_9 m).bind fun v1 => ((aload 1 false (.e (.c (v1))) m).bind fun v2 => ((asB (.e v2)).bind fun b3 => (cond b3
 ((aidx 1 (.e e_1) n_9 m).bind fun v4 => ((aload 1 false (.e (.c (v4))) m).bind fun v5 => ((asB (.e v5)).bind fun b6 => (cond b6
 ((aarith .add .i64 (mkI .i64 e_8) (mkI .i64 1)).bind fun n7 => (J10_11 v_0 e_1 r_5 x6 v_7 n7 n_9 m))
 (J10_11 v_0 e_1 r_5 x6 v_7 e_8 n_9 m)))))
 (J10_11 v_0 e_1 r_5 x6 v_7 e_8 n_9 m))))) := (ex_seg E 600 _).trans (by kernel_rfl)
theorem J10_11_eq (v_0 : TE) (e_1 : TE) (r_5 : Int) (x6 : Int) (v_7 : Int) (e_8 : Int) (n_9 : Int) (m : Mem) : J10_11 v_0 e_1 r_5 x6 v_7 e_8 n_9 m =
 ((aarith .add .i64 (mkI .i64 n_9) (mkI .i64 1)).bind fun n1 => (J10_10 v_0 e_1 r_5 x6 v_7 e_8 n1 m)) := (ex_seg E 600 _).trans (by kernel_rfl)
-- 26 veneer/veneerlaw19.awake
theorem C26  (m : Mem) : ex E (entry E.P 26 [] m) =
 (callI A0 E false 27 [.c (.p (.c (.int .i64 7))), .c (.p (.c (.int .i64 3)))] m fun v1 => ((asK .i64 v1).bind fun n2 => ((acmp .no .eql (mkI .i64 n2) (mkI .i64 1)).bind fun b3 => (cond b3
 (callI A0 E false 29 [.c (.p (.c (.int .i64 5)))] m fun v4 => ((asK .i64 v4).bind fun n5 => ((acmp .no .eql (mkI .i64 n5) (mkI .i64 3)).bind fun b6 => (cond b6
 (callI A0 E false 31 [.c (.p (.c (.int .i64 2)))] m fun v7 => ((asK .i64 v7).bind fun n8 => ((acmp .no .eql (mkI .i64 n8) (mkI .i64 12)).bind fun b9 => (cond b9
 (callI A0 E false 33 [.c (.p (.c (.int .i64 7))), .c (.p (.c (.int .i64 1))), .c (.p (.c (.int .i64 3)))] m fun v10 => ((asK .i64 v10).bind fun n11 => ((acmp .no .eql (mkI .i64 n11) (mkI .i64 10)).bind fun b12 => (cond b12
 ((afill [.p (.c (.int .i64 0)), .p (.c (.int .i64 0)), .p (.c (.int .i64 0))] [(1, 1, (mkI .i64 2)), (2, 1, (mkI .i64 5))]).bind fun cs13 => ((afill [.p (.c (.int .i64 0)), .p (.c (.int .i64 0)), .p (.c (.int .i64 0))] [(0, 1, (mkI .i64 1)), (1, 1, (mkI .i64 3)), (2, 1, (mkI .i64 1))]).bind fun cs14 => ((afill [.p (.c (.int .i64 0)), .p (.c (.int .i64 0)), .p (.c (.int .i64 0))] [(0, 1, (mkI .i64 2)), (1, 1, (mkI .i64 3)), (2, 1, (mkI .i64 4))]).bind fun cs15 => ((afillS 3 (List.replicate 3 [.p (.c (.int .i64 0)), .p (.c (.int .i64 0)), .p (.c (.int .i64 0))]) [(0, (.e (.a (cs13)))), (1, (.e (.a (cs14)))), (2, (.e (.a (cs15))))]).bind fun es16 => (callI A0 E false 35 [.c (.oref m.length 0 0 3)] (m ++ [AObj.mk 0 3 55 true es16]) fun v17 => ((asK .i64 v17).bind fun n18 => ((acmp .no .eql (mkI .i64 n18) (mkI .i64 2)).bind fun b19 => (cond b19
 ((afillS 1 (List.replicate 3 [.p (.c (.int .i64 0))]) [(0, (mkI .i64 5)), (1, (mkI .i64 9)), (2, (mkI .i64 7))]).bind fun es20 => (callI A0 E false 37 [.c (.oref (m ++ [AObj.mk 0 3 55 true es16]).length 0 0 3)] (m ++ [AObj.mk 0 3 55 true es16] ++ [AObj.mk 0 1 2 true es20]) fun v21 => ((asK .i64 v21).bind fun n22 => ((acmp .no .eql (mkI .i64 n22) (mkI .i64 7)).bind fun b23 => (some (.ret (.e (.c (.p (.c (.bool b23))))), m ++ [AObj.mk 0 3 55 true es16] ++ [AObj.mk 0 1 2 true es20]))))))
 (some (.ret (.e (.c (.p (.c (.bool false))))), m ++ [AObj.mk 0 3 55 true es16]))))))))))
 (some (.ret (.e (.c (.p (.c (.bool false))))), m))))))
 (some (.ret (.e (.c (.p (.c (.bool false))))), m))))))
 (some (.ret (.e (.c (.p (.c (.bool false))))), m))))))
 (some (.ret (.e (.c (.p (.c (.bool false))))), m)))))) := (ex_seg E 600 _).trans (by kernel_rfl)
-- 27 veneer/view.Primary
theorem C27 (v_0 : Int) (e_1 : Int) (m : Mem) : ex E (entry E.P 27 [.c (.p (.c (.int .i64 v_0))), .c (.p (.c (.int .i64 e_1)))] m) =
 ((acmp .no .lss (mkI .i64 v_0) (mkI .i64 0)).bind fun b1 => (cond b1
 (some (.ret (.e (.c (.p (.c (.int .i64 (-1)))))), m))
 ((acmp .no .lss (mkI .i64 e_1) (mkI .i64 1)).bind fun b2 => (cond b2
 (some (.ret (.e (.c (.p (.c (.int .i64 (-1)))))), m))
 ((aarith .rem .i64 (mkI .i64 v_0) (mkI .i64 e_1)).bind fun n3 => (some (.ret (.e (.c (.p (.c (.int .i64 n3))))), m))))))) := (ex_seg E 600 _).trans (by kernel_rfl)
-- 28 veneer/veneerref19.Primary
theorem C28 (v_0 : Int) (e_1 : Int) (m : Mem) : ex E (entry E.P 28 [.c (.p (.c (.int .i64 v_0))), .c (.p (.c (.int .i64 e_1)))] m) =
 ((acmp .no .lss (mkI .i64 v_0) (mkI .i64 0)).bind fun b1 => (cond b1
 (some (.ret (.e (.c (.p (.c (.int .i64 (-1)))))), m))
 ((acmp .no .lss (mkI .i64 e_1) (mkI .i64 1)).bind fun b2 => (cond b2
 (some (.ret (.e (.c (.p (.c (.int .i64 (-1)))))), m))
 ((aarith .rem .i64 (mkI .i64 v_0) (mkI .i64 e_1)).bind fun n3 => (some (.ret (.e (.c (.p (.c (.int .i64 n3))))), m))))))) := (ex_seg E 600 _).trans (by kernel_rfl)
-- 29 veneer/view.Quorum
theorem C29 (v_0 : Int) (m : Mem) : ex E (entry E.P 29 [.c (.p (.c (.int .i64 v_0)))] m) =
 ((acmp .no .lss (mkI .i64 v_0) (mkI .i64 1)).bind fun b1 => (cond b1
 (some (.ret (.e (.c (.p (.c (.int .i64 0))))), m))
 ((aarith .quo .i64 (mkI .i64 v_0) (mkI .i64 2)).bind fun n2 => ((aarith .add .i64 (mkI .i64 n2) (mkI .i64 1)).bind fun n3 => (some (.ret (.e (.c (.p (.c (.int .i64 n3))))), m)))))) := (ex_seg E 600 _).trans (by kernel_rfl)
-- 30 veneer/veneerref19.Quorum
theorem C30 (v_0 : Int) (m : Mem) : ex E (entry E.P 30 [.c (.p (.c (.int .i64 v_0)))] m) =
 ((acmp .no .lss (mkI .i64 v_0) (mkI .i64 1)).bind fun b1 => (cond b1
 (some (.ret (.e (.c (.p (.c (.int .i64 0))))), m))
 ((aarith .sub .i64 (mkI .i64 v_0) (mkI .i64 1)).bind fun n2 => ((aarith .quo .i64 (mkI .i64 n2) (mkI .i64 2)).bind fun n3 => ((aarith .sub .i64 (mkI .i64 v_0) (mkI .i64 n3)).bind fun n4 => (some (.ret (.e (.c (.p (.c (.int .i64 n4))))), m))))))) := (ex_seg E 600 _).trans (by kernel_rfl)
-- 31 veneer/view.Wait
theorem C31 (v_0 : Int) (m : Mem) : ex E (entry E.P 31 [.c (.p (.c (.int .i64 v_0)))] m) =
 ((acmp .no .lss (mkI .i64 v_0) (mkI .i64 0)).bind fun b1 => (cond b1
 (some (.ret (.e (.c (.p (.c (.int .i64 0))))), m))
 ((acmp .no .geq (mkI .i64 v_0) (mkI .i64 7)).bind fun b2 => (cond b2
 (some (.ret (.e (.c (.p (.c (.int .i64 0))))), m))
 ((aarith .mul .i64 (mkI .i64 2) (mkI .i64 v_0)).bind fun n3 => ((aarith .add .i64 (mkI .i64 8) (mkI .i64 n3)).bind fun n4 => (some (.ret (.e (.c (.p (.c (.int .i64 n4))))), m)))))))) := (ex_seg E 600 _).trans (by kernel_rfl)
-- 32 veneer/veneerref19.Wait
theorem C32 (v_0 : Int) (m : Mem) : ex E (entry E.P 32 [.c (.p (.c (.int .i64 v_0)))] m) =
 ((acmp .no .lss (mkI .i64 v_0) (mkI .i64 0)).bind fun b1 => (cond b1
 (some (.ret (.e (.c (.p (.c (.int .i64 0))))), m))
 ((acmp .no .gtr (mkI .i64 v_0) (mkI .i64 6)).bind fun b2 => (cond b2
 (some (.ret (.e (.c (.p (.c (.int .i64 0))))), m))
 ((aarith .add .i64 (mkI .i64 8) (mkI .i64 v_0)).bind fun n3 => ((aarith .add .i64 (mkI .i64 n3) (mkI .i64 v_0)).bind fun n4 => (some (.ret (.e (.c (.p (.c (.int .i64 n4))))), m)))))))) := (ex_seg E 600 _).trans (by kernel_rfl)
-- 33 veneer/view.Next
noncomputable def J33_8 (v_7 : Int) (m : Mem) : Option Out := ex E (cfgAt E.P 33 8 (tms 43 [(7, (mkI .i64 v_7))]) m)
theorem C33 (v_0 : Int) (e_1 : Int) (n_2 : Int) (m : Mem) : ex E (entry E.P 33 [.c (.p (.c (.int .i64 v_0))), .c (.p (.c (.int .i64 e_1))), .c (.p (.c (.int .i64 n_2)))] m) =
 ((acmp .no .lss (mkI .i64 v_0) (mkI .i64 0)).bind fun b1 => (cond b1
 (some (.ret (.e (.c (.p (.c (.int .i64 (-1)))))), m))
 ((acmp .no .gtr (mkI .i64 v_0) (mkI .i64 1099511627776)).bind fun b2 => (cond b2
 (some (.ret (.e (.c (.p (.c (.int .i64 (-1)))))), m))
 ((acmp .no .lss (mkI .i64 e_1) (mkI .i64 0)).bind fun b3 => (cond b3
 (some (.ret (.e (.c (.p (.c (.int .i64 (-1)))))), m))
 ((acmp .no .geq (mkI .i64 e_1) (mkI .i64 n_2)).bind fun b4 => (cond b4
 (some (.ret (.e (.c (.p (.c (.int .i64 (-1)))))), m))
 ((aarith .rem .i64 (mkI .i64 v_0) (mkI .i64 n_2)).bind fun n5 => ((aarith .sub .i64 (mkI .i64 v_0) (mkI .i64 n5)).bind fun n6 => ((aarith .add .i64 (mkI .i64 n6) (mkI .i64 e_1)).bind fun n7 => ((acmp .no .leq (mkI .i64 n7) (mkI .i64 v_0)).bind fun b8 => (cond b8
 ((aarith .sub .i64 (mkI .i64 1099511627776) (mkI .i64 n_2)).bind fun n9 => ((acmp .no .gtr (mkI .i64 n7) (mkI .i64 n9)).bind fun b10 => (cond b10
 (some (.ret (.e (.c (.p (.c (.int .i64 (-1)))))), m))
 ((aarith .add .i64 (mkI .i64 n7) (mkI .i64 n_2)).bind fun n11 => (J33_8 n11 m)))))
 (J33_8 n7 m)))))))))))))) := (ex_seg E 600 _).trans (by kernel_rfl)
theorem J33_8_eq (v_7 : Int) (m : Mem) : J33_8 v_7 m =
 ((acmp .no .gtr (mkI .i64 v_7) (mkI .i64 1099511627776)).bind fun b1 => (cond b1
 (some (.ret (.e (.c (.p (.c (.int .i64 (-1)))))), m))
 (some (.ret (.e (.c (.p (.c (.int .i64 v_7))))), m)))) := (ex_seg E 600 _).trans (by kernel_rfl)
-- 34 veneer/veneerlaw19.leads
noncomputable def J34_2 (v_0 : Int) (e_1 : Int) (n_2 : Int) (e_3 : Int) (n_9 : Int) (m : Mem) : Option Out := ex E (cfgAt E.P 34 2 (tms 26 [(0, (mkI .i64 v_0)), (1, (mkI .i64 e_1)), (2, (mkI .i64 n_2)), (3, (mkI .i64 e_3)), (9, (mkI .i64 n_9))]) m)
theorem C34 (v_0 : Int) (e_1 : Int) (n_2 : Int) (e_3 : Int) (m : Mem) : ex E (entry E.P 34 [.c (.p (.c (.int .i64 v_0))), .c (.p (.c (.int .i64 e_1))), .c (.p (.c (.int .i64 n_2))), .c (.p (.c (.int .i64 e_3)))] m) =
 (J34_2 v_0 e_1 n_2 e_3 1 m) := (ex_seg E 600 _).trans (by kernel_rfl)
theorem J34_2_eq (v_0 : Int) (e_1 : Int) (n_2 : Int) (e_3 : Int) (n_9 : Int) (m : Mem) : J34_2 v_0 e_1 n_2 e_3 n_9 m =
 ((acmp .no .leq (mkI .i64 n_9) (mkI .i64 e_1)).bind fun b1 => (cond b1
 ((acmp .no .leq (mkI .i64 n_9) (mkI .i64 1000)).bind fun b2 => (cond b2
 ((aarith .add .i64 (mkI .i64 v_0) (mkI .i64 n_9)).bind fun n3 => (callI A0 E false 28 [.c (.p (.c (.int .i64 n3))), .c (.p (.c (.int .i64 e_3)))] m fun v4 => ((asK .i64 v4).bind fun n5 => ((acmp .no .eql (mkI .i64 n5) (mkI .i64 n_2)).bind fun b6 => (cond b6
 (some (.ret (.e (.c (.p (.c (.bool true))))), m))
 ((aarith .add .i64 (mkI .i64 n_9) (mkI .i64 1)).bind fun n7 => (J34_2 v_0 e_1 n_2 e_3 n7 m)))))))
 (some (.ret (.e (.c (.p (.c (.bool false))))), m))))
 (some (.ret (.e (.c (.p (.c (.bool false))))), m)))) := (ex_seg E 600 _).trans (by kernel_rfl)
-- 35 veneer/view.Best
theorem C35 (v_0 : TE) (m : Mem) : ex E (entry E.P 35 [v_0] m) =
 (cond (isPC (.e v_0)) none ((alen (.e v_0)).bind fun n1 => ((acmp .no .eql (mkI .i64 n1) (mkI .i64 0)).bind fun b2 => (cond b2
 (some (.ret (.e (.c (.p (.c (.int .i64 (-1)))))), m))
 (callW A0 E false 73 [v_0, .c (.clo 74 [] [])] m fun v3 m4 => ((asE v3).bind fun e5 => (callI A0 E false 72 [v_0, e5] m4 fun v6 => ((asK .i64 v6).bind fun n7 => (some (.ret (.e (.c (.p (.c (.int .i64 n7))))), m4)))))))))) := (ex_seg E 600 _).trans (by kernel_rfl)
-- 36 veneer/veneerref19.Best
noncomputable def J36_3 (v_0 : TE) (e_3 : Int) (e_4 : Int) (m : Mem) : Option Out := ex E (cfgAt E.P 36 3 (tms 65 [(0, (.e v_0)), (3, (mkI .i64 e_3)), (4, (mkI .i64 e_4))]) m)
noncomputable def J36_4 (v_0 : TE) (e_3 : Int) (e_4 : Int) (m : Mem) : Option Out := ex E (cfgAt E.P 36 4 (tms 65 [(0, (.e v_0)), (3, (mkI .i64 e_3)), (4, (mkI .i64 e_4))]) m)
theorem C36 (v_0 : TE) (m : Mem) : ex E (entry E.P 36 [v_0] m) =
 (J36_3 v_0 (-1) 0 m) := (ex_seg E 600 _).trans (by kernel_rfl)
theorem J36_3_eq (v_0 : TE) (e_3 : Int) (e_4 : Int) (m : Mem) : J36_3 v_0 e_3 e_4 m =
 (cond (isPC (.e v_0)) none ((alen (.e v_0)).bind fun n1 => ((acmp .no .lss (mkI .i64 e_4) (mkI .i64 n1)).bind fun b2 => (cond b2
 ((acmp .no .lss (mkI .i64 e_3) (mkI .i64 0)).bind fun b3 => (cond b3
 (J36_4 v_0 e_4 e_4 m)
 ((aidx 3 (.e v_0) e_4 m).bind fun v4 => ((afield 1 (.e (.c (v4)))).bind fun v5 => ((aload 1 false (.e (.c (v5))) m).bind fun v6 => ((asK .i64 (.e v6)).bind fun n7 => ((aidx 3 (.e v_0) e_3 m).bind fun v8 => ((afield 1 (.e (.c (v8)))).bind fun v9 => ((aload 1 false (.e (.c (v9))) m).bind fun v10 => ((asK .i64 (.e v10)).bind fun n11 => ((acmp .no .gtr (mkI .i64 n7) (mkI .i64 n11)).bind fun b12 => (cond b12
 (J36_4 v_0 e_4 e_4 m)
 ((aidx 3 (.e v_0) e_4 m).bind fun v13 => ((aload 3 true (.e (.c (v13))) m).bind fun v14 => ((astore 3 (.e (.c (.ref m.length 0 0 0))) (.e v14) (m ++ [boxObj 55 [.p (.c (.int .i64 0)), .p (.c (.int .i64 0)), .p (.c (.int .i64 0))]])).bind fun m15 => ((aidx 3 (.e v_0) e_3 m15).bind fun v16 => ((aload 3 true (.e (.c (v16))) m15).bind fun v17 => ((astore 3 (.e (.c (.ref m15.length 0 0 0))) (.e v17) (m15 ++ [boxObj 55 [.p (.c (.int .i64 0)), .p (.c (.int .i64 0)), .p (.c (.int .i64 0))]])).bind fun m18 => ((afield 1 (.e (.c (.ref m.length 0 0 0)))).bind fun v19 => ((aload 1 false (.e (.c (v19))) m18).bind fun v20 => ((asK .i64 (.e v20)).bind fun n21 => ((afield 1 (.e (.c (.ref m15.length 0 0 0)))).bind fun v22 => ((aload 1 false (.e (.c (v22))) m18).bind fun v23 => ((asK .i64 (.e v23)).bind fun n24 => ((acmp .no .eql (mkI .i64 n21) (mkI .i64 n24)).bind fun b25 => (cond b25
 ((afield 2 (.e (.c (.ref m.length 0 0 0)))).bind fun v26 => ((aload 1 false (.e (.c (v26))) m18).bind fun v27 => ((asK .i64 (.e v27)).bind fun n28 => ((afield 2 (.e (.c (.ref m15.length 0 0 0)))).bind fun v29 => ((aload 1 false (.e (.c (v29))) m18).bind fun v30 => ((asK .i64 (.e v30)).bind fun n31 => ((acmp .no .gtr (mkI .i64 n28) (mkI .i64 n31)).bind fun b32 => (cond b32
 (J36_4 v_0 e_4 e_4 m18)
 ((afield 2 (.e (.c (.ref m.length 0 0 0)))).bind fun v33 => ((aload 1 false (.e (.c (v33))) m18).bind fun v34 => ((asK .i64 (.e v34)).bind fun n35 => ((afield 2 (.e (.c (.ref m15.length 0 0 0)))).bind fun v36 => ((aload 1 false (.e (.c (v36))) m18).bind fun v37 => ((asK .i64 (.e v37)).bind fun n38 => ((acmp .no .eql (mkI .i64 n35) (mkI .i64 n38)).bind fun b39 => (cond b39
 ((afield 0 (.e (.c (.ref m.length 0 0 0)))).bind fun v40 => ((aload 1 false (.e (.c (v40))) m18).bind fun v41 => ((asK .i64 (.e v41)).bind fun n42 => ((afield 0 (.e (.c (.ref m15.length 0 0 0)))).bind fun v43 => ((aload 1 false (.e (.c (v43))) m18).bind fun v44 => ((asK .i64 (.e v44)).bind fun n45 => ((acmp .no .lss (mkI .i64 n42) (mkI .i64 n45)).bind fun b46 => (cond b46
 (J36_4 v_0 e_4 e_4 m18)
 (J36_4 v_0 e_3 e_4 m18)))))))))
 (J36_4 v_0 e_3 e_4 m18)))))))))))))))))
 (J36_4 v_0 e_3 e_4 m18)))))))))))))))))))))))))))
 (some (.ret (.e (.c (.p (.c (.int .i64 e_3))))), m)))))) := (ex_seg E 600 _).trans (by kernel_rfl)
theorem J36_4_eq (v_0 : TE) (e_3 : Int) (e_4 : Int) (m : Mem) : J36_4 v_0 e_3 e_4 m =
 ((aarith .add .i64 (mkI .i64 e_4) (mkI .i64 1)).bind fun n1 => (J36_3 v_0 e_3 n1 m)) := (ex_seg E 600 _).trans (by kernel_rfl)
-- 38 veneer/veneerref19.Reached
noncomputable def J38_4 (v_0 : TE) (e_3 : Int) (e_4 : Bool) (r_5 : Int) (m : Mem) : Option Out := ex E (cfgAt E.P 38 4 (tms 53 [(0, (.e v_0)), (3, (mkI .i64 e_3)), (4, (mkB e_4)), (5, (mkI .i64 r_5))]) m)
noncomputable def J38_8 (v_0 : TE) (e_3 : Int) (e_4 : Bool) (r_5 : Int) (x6 : Int) (v_7 : Int) (m : Mem) : Option Out := ex E (cfgAt E.P 38 8 (tms 53 [(0, (.e v_0)), (3, (mkI .i64 e_3)), (4, (mkB e_4)), (5, (mkI .i64 r_5)), (6, (mkI .i64 x6)), (7, (mkI .i64 v_7))]) m)
noncomputable def J38_9 (v_0 : TE) (e_3 : Int) (e_4 : Bool) (r_5 : Int) (x6 : Int) (v_7 : Int) (m : Mem) : Option Out := ex E (cfgAt E.P 38 9 (tms 53 [(0, (.e v_0)), (3, (mkI .i64 e_3)), (4, (mkB e_4)), (5, (mkI .i64 r_5)), (6, (mkI .i64 x6)), (7, (mkI .i64 v_7))]) m)
noncomputable def J38_5 (v_0 : TE) (e_3 : Int) (e_4 : Bool) (r_5 : Int) (m : Mem) : Option Out := ex E (cfgAt E.P 38 5 (tms 53 [(0, (.e v_0)), (3, (mkI .i64 e_3)), (4, (mkB e_4)), (5, (mkI .i64 r_5))]) m)
theorem C38 (v_0 : TE) (m : Mem) : ex E (entry E.P 38 [v_0] m) =
 (J38_4 v_0 0 false 0 m) := (ex_seg E 600 _).trans (by kernel_rfl)
theorem J38_4_eq (v_0 : TE) (e_3 : Int) (e_4 : Bool) (r_5 : Int) (m : Mem) : J38_4 v_0 e_3 e_4 r_5 m =
 (cond (isPC (.e v_0)) none ((alen (.e v_0)).bind fun n1 => ((acmp .no .lss (mkI .i64 r_5) (mkI .i64 n1)).bind fun b2 => (cond b2
 (J38_8 v_0 e_3 e_4 r_5 0 0 m)
 (some (.ret (.e (.c (.p (.c (.int .i64 e_3))))), m)))))) := (ex_seg E 600 _).trans (by kernel_rfl)
theorem J38_8_eq (v_0 : TE) (e_3 : Int) (e_4 : Bool) (r_5 : Int) (x6 : Int) (v_7 : Int) (m : Mem) : J38_8 v_0 e_3 e_4 r_5 x6 v_7 m =
 (cond (isPC (.e v_0)) none ((alen (.e v_0)).bind fun n1 => ((acmp .no .lss (mkI .i64 v_7) (mkI .i64 n1)).bind fun b2 => (cond b2
 ((aidx 1 (.e v_0) v_7 m).bind fun v3 => ((aload 1 false (.e (.c (v3))) m).bind fun v4 => ((asK .i64 (.e v4)).bind fun n5 => ((aidx 1 (.e v_0) r_5 m).bind fun v6 => ((aload 1 false (.e (.c (v6))) m).bind fun v7 => ((asK .i64 (.e v7)).bind fun n8 => ((acmp .no .geq (mkI .i64 n5) (mkI .i64 n8)).bind fun b9 => (cond b9
 ((aarith .add .i64 (mkI .i64 x6) (mkI .i64 1)).bind fun n10 => (J38_9 v_0 e_3 e_4 r_5 n10 v_7 m))
 (J38_9 v_0 e_3 e_4 r_5 x6 v_7 m)))))))))
 (cond (isPC (.e v_0)) none ((alen (.e v_0)).bind fun n11 => (callI A0 E false 30 [.c (.p (.c (.int .i64 n11)))] m fun v12 => ((asK .i64 v12).bind fun n13 => ((acmp .no .geq (mkI .i64 x6) (mkI .i64 n13)).bind fun b14 => (cond b14
 ((anot (mkB e_4)).bind fun b15 => (cond b15
 ((aidx 1 (.e v_0) r_5 m).bind fun v16 => ((aload 1 false (.e (.c (v16))) m).bind fun v17 => ((asK .i64 (.e v17)).bind fun n18 => (J38_5 v_0 n18 true r_5 m))))
 ((aidx 1 (.e v_0) r_5 m).bind fun v19 => ((aload 1 false (.e (.c (v19))) m).bind fun v20 => ((asK .i64 (.e v20)).bind fun n21 => ((acmp .no .gtr (mkI .i64 n21) (mkI .i64 e_3)).bind fun b22 => (cond b22
 ((aidx 1 (.e v_0) r_5 m).bind fun v23 => ((aload 1 false (.e (.c (v23))) m).bind fun v24 => ((asK .i64 (.e v24)).bind fun n25 => (J38_5 v_0 n25 true r_5 m))))
 (J38_5 v_0 e_3 e_4 r_5 m))))))))
 (J38_5 v_0 e_3 e_4 r_5 m))))))))))) := (ex_seg E 600 _).trans (by kernel_rfl)
theorem J38_9_eq (v_0 : TE) (e_3 : Int) (e_4 : Bool) (r_5 : Int) (x6 : Int) (v_7 : Int) (m : Mem) : J38_9 v_0 e_3 e_4 r_5 x6 v_7 m =
 ((aarith .add .i64 (mkI .i64 v_7) (mkI .i64 1)).bind fun n1 => (J38_8 v_0 e_3 e_4 r_5 x6 n1 m)) := (ex_seg E 600 _).trans (by kernel_rfl)
theorem J38_5_eq (v_0 : TE) (e_3 : Int) (e_4 : Bool) (r_5 : Int) (m : Mem) : J38_5 v_0 e_3 e_4 r_5 m =
 ((aarith .add .i64 (mkI .i64 r_5) (mkI .i64 1)).bind fun n1 => (J38_4 v_0 e_3 e_4 n1 m)) := (ex_seg E 600 _).trans (by kernel_rfl)
-- 72 slices.Index[[]veneer/api.Vote,veneer/api.Vote]
noncomputable def J72_2 (s_0 : TE) (c_3 : TE) (s_7 : Int) (l_8 : Int) (m : Mem) : Option Out := ex E (cfgAt E.P 72 2 (tms 19 [(0, (.e s_0)), (3, (.e c_3)), (7, (mkI .i64 s_7)), (8, (mkI .i64 l_8))]) m)
theorem C72 (s_0 : TE) (l_1 : TE) (m : Mem) : ex E (entry E.P 72 [s_0, l_1] m) =
 (cond (isPC (.e s_0)) none ((alen (.e s_0)).bind fun n1 => (J72_2 s_0 (.c (.ref m.length 0 0 0)) n1 0 (m ++ [boxObj 55 (TE.cells l_1)])))) := (ex_seg E 600 _).trans (by kernel_rfl)
theorem J72_2_eq (s_0 : TE) (c_3 : TE) (s_7 : Int) (l_8 : Int) (m : Mem) : J72_2 s_0 c_3 s_7 l_8 m =
 ((acmp .no .lss (mkI .i64 l_8) (mkI .i64 s_7)).bind fun b1 => (cond b1
 ((aload 3 true (.e c_3) m).bind fun v2 => ((aidx 3 (.e s_0) l_8 m).bind fun v3 => ((aload 3 true (.e (.c (v3))) m).bind fun v4 => ((acmp (.s [true, true, true]) .eql (.e v2) (.e v4)).bind fun b5 => (cond b5
 (some (.ret (.e (.c (.p (.c (.int .i64 l_8))))), m))
 ((aarith .add .i64 (mkI .i64 l_8) (mkI .i64 1)).bind fun n6 => (J72_2 s_0 c_3 s_7 n6 m)))))))
 (some (.ret (.e (.c (.p (.c (.int .i64 (-1)))))), m)))) := (ex_seg E 600 _).trans (by kernel_rfl)
-- 73 slices.MinFunc[[]veneer/api.Vote,veneer/api.Vote]
noncomputable def J73_5 (s_0 : TE) (e_4 : TE) (s_5 : TE) (x6 : Int) (m : Mem) : Option Out := ex E (cfgAt E.P 73 5 (tms 33 [(0, (.e s_0)), (1, (.e (.c (.clo 74 [] [])))), (4, (.e e_4)), (5, (.e s_5)), (6, (mkI .i64 x6))]) m)
noncomputable def J73_6 (s_0 : TE) (e_4 : TE) (s_5 : TE) (x6 : Int) (m : Mem) : Option Out := ex E (cfgAt E.P 73 6 (tms 33 [(0, (.e s_0)), (1, (.e (.c (.clo 74 [] [])))), (4, (.e e_4)), (5, (.e s_5)), (6, (mkI .i64 x6))]) m)
theorem C73 (s_0 : TE) (m : Mem) : ex E (entry E.P 73 [s_0, .c (.clo 74 [] [])] m) =
 (cond (isPC (.e s_0)) none ((alen (.e s_0)).bind fun n1 => ((acmp .no .lss (mkI .i64 n1) (mkI .i64 1)).bind fun b2 => (cond b2
 ((aiface 9 (mkS ⟨#[115, 108, 105, 99, 101, 115, 46, 77, 105, 110, 70, 117, 110, 99, 58, 32, 101, 109, 112, 116, 121, 32, 108, 105, 115, 116]⟩)).bind fun v3 => ((apanic (.e (.c (v3)))).bind fun v4 => some (.pan v4, m ++ [boxObj 55 [.p (.c (.int .i64 0)), .p (.c (.int .i64 0)), .p (.c (.int .i64 0))]])))
 ((aidx 3 (.e s_0) 0 (m ++ [boxObj 55 [.p (.c (.int .i64 0)), .p (.c (.int .i64 0)), .p (.c (.int .i64 0))]])).bind fun v5 => ((aload 3 true (.e (.c (v5))) (m ++ [boxObj 55 [.p (.c (.int .i64 0)), .p (.c (.int .i64 0)), .p (.c (.int .i64 0))]])).bind fun v6 => ((astore 3 (.e (.c (.ref (m ++ [boxObj 55 [.p (.c (.int .i64 0)), .p (.c (.int .i64 0)), .p (.c (.int .i64 0))]]).length 0 0 0))) (.e v6) (m ++ [boxObj 55 [.p (.c (.int .i64 0)), .p (.c (.int .i64 0)), .p (.c (.int .i64 0))]] ++ [boxObj 55 [.p (.c (.int .i64 0)), .p (.c (.int .i64 0)), .p (.c (.int .i64 0))]])).bind fun m7 => (J73_5 s_0 (.c (.ref m.length 0 0 0)) (.c (.ref (m ++ [boxObj 55 [.p (.c (.int .i64 0)), .p (.c (.int .i64 0)), .p (.c (.int .i64 0))]]).length 0 0 0)) 1 m7)))))))) := (ex_seg E 600 _).trans (by kernel_rfl)
theorem J73_5_eq (s_0 : TE) (e_4 : TE) (s_5 : TE) (x6 : Int) (m : Mem) : J73_5 s_0 e_4 s_5 x6 m =
 (cond (isPC (.e s_0)) none ((alen (.e s_0)).bind fun n1 => ((acmp .no .lss (mkI .i64 x6) (mkI .i64 n1)).bind fun b2 => (cond b2
 ((aidx 3 (.e s_0) x6 m).bind fun v3 => ((aload 3 true (.e (.c (v3))) m).bind fun v4 => ((aload 3 true (.e s_5) m).bind fun v5 => (callI A0 E true 74 [v4, v5] m fun v6 => ((asK .i64 v6).bind fun n7 => ((acmp .no .lss (mkI .i64 n7) (mkI .i64 0)).bind fun b8 => (cond b8
 ((aidx 3 (.e s_0) x6 m).bind fun v9 => ((aload 3 true (.e (.c (v9))) m).bind fun v10 => ((astore 3 (.e s_5) (.e v10) m).bind fun m11 => (J73_6 s_0 e_4 s_5 x6 m11))))
 (J73_6 s_0 e_4 s_5 x6 m))))))))
 ((aload 3 true (.e s_5) m).bind fun v12 => ((astore 3 (.e e_4) (.e v12) m).bind fun m13 => ((aload 3 true (.e e_4) m13).bind fun r14 => (some (.ret (.e (r14)), m13))))))))) := (ex_seg E 600 _).trans (by kernel_rfl)
theorem J73_6_eq (s_0 : TE) (e_4 : TE) (s_5 : TE) (x6 : Int) (m : Mem) : J73_6 s_0 e_4 s_5 x6 m =
 ((aarith .add .i64 (mkI .i64 x6) (mkI .i64 1)).bind fun n1 => (J73_5 s_0 e_4 s_5 n1 m)) := (ex_seg E 600 _).trans (by kernel_rfl)
-- 74 veneer/view.better
theorem C74 (v_0 : TE) (e_1 : TE) (m : Mem) : ex E (entry E.P 74 [v_0, e_1] m) =
 ((afield 1 (.e (.c (.ref (m ++ [boxObj 55 (TE.cells v_0)]).length 0 0 0)))).bind fun v1 => ((aload 1 false (.e (.c (v1))) (m ++ [boxObj 55 (TE.cells v_0)] ++ [boxObj 55 (TE.cells e_1)])).bind fun v2 => ((asK .i64 (.e v2)).bind fun n3 => ((afield 1 (.e (.c (.ref m.length 0 0 0)))).bind fun v4 => ((aload 1 false (.e (.c (v4))) (m ++ [boxObj 55 (TE.cells v_0)] ++ [boxObj 55 (TE.cells e_1)])).bind fun v5 => ((asK .i64 (.e v5)).bind fun n6 => (callI A0 E true 91 [.c (.p (.c (.int .i64 n3))), .c (.p (.c (.int .i64 n6)))] (m ++ [boxObj 55 (TE.cells v_0)] ++ [boxObj 55 (TE.cells e_1)]) fun v7 => ((asK .i64 v7).bind fun n8 => ((afield 2 (.e (.c (.ref (m ++ [boxObj 55 (TE.cells v_0)]).length 0 0 0)))).bind fun v9 => ((aload 1 false (.e (.c (v9))) (m ++ [boxObj 55 (TE.cells v_0)] ++ [boxObj 55 (TE.cells e_1)])).bind fun v10 => ((asK .i64 (.e v10)).bind fun n11 => ((afield 2 (.e (.c (.ref m.length 0 0 0)))).bind fun v12 => ((aload 1 false (.e (.c (v12))) (m ++ [boxObj 55 (TE.cells v_0)] ++ [boxObj 55 (TE.cells e_1)])).bind fun v13 => ((asK .i64 (.e v13)).bind fun n14 => (callI A0 E true 91 [.c (.p (.c (.int .i64 n11))), .c (.p (.c (.int .i64 n14)))] (m ++ [boxObj 55 (TE.cells v_0)] ++ [boxObj 55 (TE.cells e_1)]) fun v15 => ((asK .i64 v15).bind fun n16 => ((afield 0 (.e (.c (.ref m.length 0 0 0)))).bind fun v17 => ((aload 1 false (.e (.c (v17))) (m ++ [boxObj 55 (TE.cells v_0)] ++ [boxObj 55 (TE.cells e_1)])).bind fun v18 => ((asK .i64 (.e v18)).bind fun n19 => ((afield 0 (.e (.c (.ref (m ++ [boxObj 55 (TE.cells v_0)]).length 0 0 0)))).bind fun v20 => ((aload 1 false (.e (.c (v20))) (m ++ [boxObj 55 (TE.cells v_0)] ++ [boxObj 55 (TE.cells e_1)])).bind fun v21 => ((asK .i64 (.e v21)).bind fun n22 => (callI A0 E true 92 [.c (.p (.c (.int .i64 n19))), .c (.p (.c (.int .i64 n22)))] (m ++ [boxObj 55 (TE.cells v_0)] ++ [boxObj 55 (TE.cells e_1)]) fun v23 => ((asK .i64 v23).bind fun n24 => ((afillS 1 (List.replicate 3 [.p (.c (.int .i64 0))]) [(0, (mkI .i64 n8)), (1, (mkI .i64 n16)), (2, (mkI .i64 n24))]).bind fun es25 => (callI A0 E true 90 [.c (.oref (m ++ [boxObj 55 (TE.cells v_0)] ++ [boxObj 55 (TE.cells e_1)]).length 0 0 3)] (m ++ [boxObj 55 (TE.cells v_0)] ++ [boxObj 55 (TE.cells e_1)] ++ [AObj.mk 0 1 3 true es25]) fun v26 => ((asK .i64 v26).bind fun n27 => (some (.ret (.e (.c (.p (.c (.int .i64 n27))))), m ++ [boxObj 55 (TE.cells v_0)] ++ [boxObj 55 (TE.cells e_1)] ++ [AObj.mk 0 1 3 true es25]))))))))))))))))))))))))))))) := (ex_seg E 600 _).trans (by kernel_rfl)
-- 90 cmp.Or[int]
noncomputable def J90_3 (x3 : Int) (p_6 : TE) (x7 : Int) (g_8 : Int) (m : Mem) : Option Out := ex E (cfgAt E.P 90 3 (tms 18 [(3, (mkI .i64 x3)), (6, (.e p_6)), (7, (mkI .i64 x7)), (8, (mkI .i64 g_8))]) m)
theorem C90 (c_0 : TE) (m : Mem) : ex E (entry E.P 90 [c_0] m) =
 (cond (isPC (.e c_0)) none ((alen (.e c_0)).bind fun n1 => (J90_3 0 c_0 n1 0 m))) := (ex_seg E 600 _).trans (by kernel_rfl)
theorem J90_3_eq (x3 : Int) (p_6 : TE) (x7 : Int) (g_8 : Int) (m : Mem) : J90_3 x3 p_6 x7 g_8 m =
 ((acmp .no .lss (mkI .i64 g_8) (mkI .i64 x7)).bind fun b1 => (cond b1
 ((aidx 1 (.e p_6) g_8 m).bind fun v2 => ((aload 1 false (.e (.c (v2))) m).bind fun v3 => ((asK .i64 (.e v3)).bind fun n4 => ((acmp .no .neq (mkI .i64 n4) (mkI .i64 x3)).bind fun b5 => (cond b5
 (some (.ret (.e (.c (.p (.c (.int .i64 n4))))), m))
 ((aarith .add .i64 (mkI .i64 g_8) (mkI .i64 1)).bind fun n6 => (J90_3 x3 p_6 x7 n6 m)))))))
 (some (.ret (.e (.c (.p (.c (.int .i64 x3))))), m)))) := (ex_seg E 600 _).trans (by kernel_rfl)
-- 91 cmp.Compare[int64]
theorem C91 (c_0 : Int) (m_1 : Int) (m : Mem) : ex E (entry E.P 91 [.c (.p (.c (.int .i64 c_0))), .c (.p (.c (.int .i64 m_1)))] m) =
 (callI A0 E false 99 [.c (.p (.c (.int .i64 c_0)))] m fun v1 => ((asB v1).bind fun b2 => (callI A0 E false 99 [.c (.p (.c (.int .i64 m_1)))] m fun v3 => ((asB v3).bind fun b4 => (cond b2
 (cond b4
 (some (.ret (.e (.c (.p (.c (.int .i64 0))))), m))
 (some (.ret (.e (.c (.p (.c (.int .i64 (-1)))))), m)))
 (cond b4
 (some (.ret (.e (.c (.p (.c (.int .i64 1))))), m))
 ((acmp .no .lss (mkI .i64 c_0) (mkI .i64 m_1)).bind fun b5 => (cond b5
 (some (.ret (.e (.c (.p (.c (.int .i64 (-1)))))), m))
 ((acmp .no .gtr (mkI .i64 c_0) (mkI .i64 m_1)).bind fun b6 => (cond b6
 (some (.ret (.e (.c (.p (.c (.int .i64 1))))), m))
 (some (.ret (.e (.c (.p (.c (.int .i64 0))))), m)))))))))))) := (ex_seg E 600 _).trans (by kernel_rfl)
-- 92 cmp.Compare[int]
theorem C92 (c_0 : Int) (m_1 : Int) (m : Mem) : ex E (entry E.P 92 [.c (.p (.c (.int .i64 c_0))), .c (.p (.c (.int .i64 m_1)))] m) =
 (callI A0 E false 100 [.c (.p (.c (.int .i64 c_0)))] m fun v1 => ((asB v1).bind fun b2 => (callI A0 E false 100 [.c (.p (.c (.int .i64 m_1)))] m fun v3 => ((asB v3).bind fun b4 => (cond b2
 (cond b4
 (some (.ret (.e (.c (.p (.c (.int .i64 0))))), m))
 (some (.ret (.e (.c (.p (.c (.int .i64 (-1)))))), m)))
 (cond b4
 (some (.ret (.e (.c (.p (.c (.int .i64 1))))), m))
 ((acmp .no .lss (mkI .i64 c_0) (mkI .i64 m_1)).bind fun b5 => (cond b5
 (some (.ret (.e (.c (.p (.c (.int .i64 (-1)))))), m))
 ((acmp .no .gtr (mkI .i64 c_0) (mkI .i64 m_1)).bind fun b6 => (cond b6
 (some (.ret (.e (.c (.p (.c (.int .i64 1))))), m))
 (some (.ret (.e (.c (.p (.c (.int .i64 0))))), m)))))))))))) := (ex_seg E 600 _).trans (by kernel_rfl)
-- 99 cmp.isNaN[int64]
theorem C99 (c_0 : Int) (m : Mem) : ex E (entry E.P 99 [.c (.p (.c (.int .i64 c_0)))] m) =
 ((acmp .no .neq (mkI .i64 c_0) (mkI .i64 c_0)).bind fun b1 => (some (.ret (.e (.c (.p (.c (.bool b1))))), m))) := (ex_seg E 600 _).trans (by kernel_rfl)
-- 100 cmp.isNaN[int]
theorem C100 (c_0 : Int) (m : Mem) : ex E (entry E.P 100 [.c (.p (.c (.int .i64 c_0)))] m) =
 ((acmp .no .neq (mkI .i64 c_0) (mkI .i64 c_0)).bind fun b1 => (some (.ret (.e (.c (.p (.c (.bool b1))))), m))) := (ex_seg E 600 _).trans (by kernel_rfl)
end Go.Ab
