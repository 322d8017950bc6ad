/- The typed form of the program's functions: written by gen.py. -/
import Derived.Test.YtohbahdfbgndbaaGreatSumP
set_option linter.unusedVariables false
namespace Go.Zs.L7
open Go Go.Zs
abbrev n_furlonglaw19_PartTicks : Nat := 7
abbrev n_furlonglaw19_awake : Nat := 12
abbrev n_furlonglaw19_opened : Nat := 13
abbrev n_part_Part_Prepare : Nat := 14
abbrev n_furlonglaw19_puts : Nat := 15
abbrev n_part_Part_Decide : Nat := 18
abbrev n_part_Part_Tick : Nat := 28
abbrev n_furlonglaw0_SameTxs : Nat := 29
abbrev t_bool : Nat := 4

/-! furlong/furlonglaw19.PartTicks -/
noncomputable def furlonglaw19_PartTicks_l1 {R : Type} (lf : Nat) (call : CallF) (K : Out → Fs → Heap → Option R) (f : Fs) (h : Heap) : Option R :=
  intK .leq (f 11) (f 10) fun v30 =>
  cndV v30 (bindVH (call false n_part_Part_Tick [(f 5)] h) fun v31 h32 =>
  lenL v31 fun v33 =>
  intK .gtr v33 (V.int .i64 0) fun v34 =>
  intK .geq (f 11) (V.int .i64 4) fun v35 =>
  binV e1 .neq t_bool v34 v35 h32 fun v36 =>
  cndV v36 (K .ret (updL 79 f [(31, (f 11)), (32, (f 10)), (33, v30), (36, (f 5)), (37, v31), (38, v33), (39, v34), (40, (f 11)), (41, v35), (42, v36), (4, (V.bool false))]) h32) (intK .add (f 11) (V.int .i64 1) fun v37 =>
  K .normal (updL 79 f [(31, (f 11)), (32, (f 10)), (33, v30), (36, (f 5)), (37, v31), (38, v33), (39, v34), (40, (f 11)), (41, v35), (42, v36), (34, (f 11)), (35, v37), (11, v37)]) h32)) (K (.exit 0) (updL 79 f [(31, (f 11)), (32, (f 10)), (33, v30)]) h)
noncomputable def furlonglaw19_PartTicks_j4 {R : Type} (lf : Nat) (call : CallF) (K : Out → Fs → Heap → Option R) (f : Fs) (y12 : V) (h : Heap) : Option R :=
  intK .add y12 (V.int .i64 1) fun v68 =>
  K .normal (updL 79 f [(49, y12), (50, v68), (12, v68)]) h
noncomputable def furlonglaw19_PartTicks_j3 {R : Type} (lf : Nat) (call : CallF) (K : Out → Fs → Heap → Option R) (f : Fs) (y5 : V) (y12 : V) (y13 : V) (h : Heap) : Option R :=
  bindVH (call false n_part_Part_Tick [y5] h) fun v63 h64 =>
  bindVH (call false n_furlonglaw0_SameTxs [v63, y13] h64) fun v65 h66 =>
  unK .not v65 fun v67 =>
  cndV v67 (K .ret (updL 79 f [(65, y5), (66, v63), (67, y13), (68, v65), (69, v67), (4, (V.bool false))]) h66) (furlonglaw19_PartTicks_j4 lf call K (updL 79 f [(65, y5), (66, v63), (67, y13), (68, v65), (69, v67)]) y12 h66)
noncomputable def furlonglaw19_PartTicks_j2 {R : Type} (lf : Nat) (call : CallF) (K : Out → Fs → Heap → Option R) (f : Fs) (y5 : V) (y9 : V) (y12 : V) (y13 : V) (h : Heap) : Option R :=
  intK .geq y12 (V.int .i64 4) fun v56 =>
  cndV v56 (ldA 2 y9 h fun v57 =>
  filA 0 2 v57 [(V.int .i64 0), (V.int .i64 0)] fun c58 =>
  newS 1 2 c58 h fun v60 h59 =>
  appL 2 y13 v60 h59 fun v61 h62 =>
  furlonglaw19_PartTicks_j3 lf call K (updL 79 f [(59, y12), (60, v56), (61, y13), (62, v57), (63, v60), (64, v61), (13, v61)]) y5 y12 v61 h62) (furlonglaw19_PartTicks_j3 lf call K (updL 79 f [(59, y12), (60, v56)]) y5 y12 y13 h)
noncomputable def furlonglaw19_PartTicks_l2 {R : Type} (lf : Nat) (call : CallF) (K : Out → Fs → Heap → Option R) (f : Fs) (h : Heap) : Option R :=
  intK .leq (f 12) (V.int .i64 5) fun v47 =>
  cndV v47 (intK .add (f 10) (f 12) fun v48 =>
  intK .geq v48 (V.int .i64 4) fun v49 =>
  cndV v49 (ldA 2 (f 8) h fun v50 =>
  filA 0 2 v50 [(V.int .i64 0), (V.int .i64 0)] fun c51 =>
  newS 1 2 c51 h fun v53 h52 =>
  appL 2 (V.sl none 0 0 0 true) v53 h52 fun v54 h55 =>
  furlonglaw19_PartTicks_j2 lf call K (updL 79 f [(47, (f 12)), (48, v47), (13, (V.sl none 0 0 0 true)), (51, (f 10)), (52, (f 12)), (53, v48), (54, v49), (55, (V.sl none 0 0 0 true)), (56, v50), (57, v53), (58, v54), (13, v54)]) (f 5) (f 9) (f 12) v54 h55) (furlonglaw19_PartTicks_j2 lf call K (updL 79 f [(47, (f 12)), (48, v47), (13, (V.sl none 0 0 0 true)), (51, (f 10)), (52, (f 12)), (53, v48), (54, v49)]) (f 5) (f 9) (f 12) (V.sl none 0 0 0 true) h)) (K (.exit 2) (updL 79 f [(47, (f 12)), (48, v47)]) h)
noncomputable def furlonglaw19_PartTicks_j5 (lf : Nat) (call : CallF) (f : Fs) (y1 : V) (y5 : V) (y8 : V) (h : Heap) : Option (V × Heap) :=
  ldA 2 y8 h fun v69 =>
  bindVH (call false n_part_Part_Decide [y5, v69, y1] h) fun v70 h71 =>
  lateK e1 call 79 (regOf (Code.ofFunc Go.Proofs.Tryz.f7) 26) 3 (updL 79 f [(70, y5), (71, v69), (72, y1), (73, v70)]) h71 fun f72 h73 =>
  some (tupV [(f72 4)], h73)
noncomputable def furlonglaw19_PartTicks_j1 (lf : Nat) (call : CallF) (f : Fs) (y5 : V) (y9 : V) (h : Heap) : Option (V × Heap) :=
  ldA 2 y9 h fun v38 =>
  bindVH (call false n_furlonglaw19_puts [(V.int .i64 2)] h) fun v39 h40 =>
  bindVH (call false n_part_Part_Prepare [y5, v38, (V.int .i64 (-1)), v39] h40) fun v41 h42 =>
  bif ((sameO (ldA 2 y9 h fun v45 =>
  some v45) v38 && (sameO (ldA 2 y9 h40 fun v46 =>
  some v46) v38 && true)) && true) then iterK true (furlonglaw19_PartTicks_l2 lf call) (fun o f h => blkK 2 o (furlonglaw19_PartTicks_j5 lf call f (f 1) (f 5) (f 8) h) (seqK o (furlonglaw19_PartTicks_j5 lf call f (f 1) (f 5) (f 8) h) (kRet e1 [.tmp 4] o f h))) lf (updL 79 f [(43, y5), (44, v38), (45, v39), (46, v41), (12, (V.int .i64 1))]) h42 else none
noncomputable def furlonglaw19_PartTicks (lf : Nat) (call : CallF) (x0 x1 : V) (h : Heap) : Option (V × Heap) :=
  bindVH (call false n_furlonglaw19_awake [] h) fun v1 h2 =>
  unK .not v1 fun v3 =>
  cndV v3 (some (tupV [(V.bool false)], h2)) (bindVH (call false n_furlonglaw19_opened [(V.int .i64 2), (V.int .i64 60)] h2) fun v4 h5 =>
  exK 0 v4 fun v6 =>
  exK 1 v4 fun v7 =>
  exK 2 v4 fun v8 =>
  unK .not v8 fun v9 =>
  cndV v9 (some (tupV [(V.bool false)], h5)) (fil1 0 (V.int .i64 1) [(V.int .i64 0), (V.int .i64 0)] fun c10 =>
  fil1 1 (V.int .i64 1) c10 fun c11 =>
  fil1 0 (V.int .i64 1) [(V.int .i64 0), (V.int .i64 0)] fun c12 =>
  fil1 1 (V.int .i64 2) c12 fun c13 =>
  newC [(V.int .i64 0), (V.int .i64 0)] h5 fun v14 h15 =>
  newC [(V.int .i64 0), (V.int .i64 0)] h15 fun v16 h17 =>
  stA 2 v14 (V.agg c11) h17 fun h18 =>
  stA 2 v16 (V.agg c13) h18 fun h19 =>
  intK .and x0 (V.int .i64 7) fun v20 =>
  ldA 2 v14 h19 fun v21 =>
  bindVH (call false n_furlonglaw19_puts [(V.int .i64 1)] h19) fun v22 h23 =>
  bindVH (call false n_part_Part_Prepare [v6, v21, (V.int .i64 (-1)), v22] h23) fun v24 h25 =>
  bif ((sameO (ldA 2 v14 h19 fun v28 =>
  some v28) v21 && (sameO (ldA 2 v14 h23 fun v29 =>
  some v29) v21 && true)) && true) then iterK true (furlonglaw19_PartTicks_l1 lf call) (fun o f h => blkK 0 o (furlonglaw19_PartTicks_j1 lf call f (f 5) (f 9) h) (seqK o (furlonglaw19_PartTicks_j1 lf call f (f 5) (f 9) h) (kRet e1 [.tmp 4] o f h))) lf (updL 79 (argF [x0, x1]) [(4, (V.bool false)), (14, v1), (15, v3), (17, v4), (16, v4), (18, v6), (19, v7), (20, v8), (5, v6), (6, v7), (7, v8), (21, v8), (22, v9), (23, (V.agg c11)), (24, (V.agg c13)), (8, v14), (9, v16), (25, x0), (26, v20), (10, v20), (27, v6), (28, v21), (29, v22), (30, v24), (11, (V.int .i64 1))]) h25 else none))
theorem furlonglaw19_PartTicks_run {lf k : Nat} {x0 x1 : V} {h : Heap} {r : V × Heap} (hr : furlonglaw19_PartTicks lf (run e1 lf k) x0 x1 h = some r) : run e1 lf (k + 1) false n_furlonglaw19_PartTicks [x0, x1] h = some r :=
  run_of rfl Go.Proofs.Tryz.func7 (c := Code.ofFunc Go.Proofs.Tryz.f7) (by kernel_rfl) (by kernel_rfl) ((by kernel_rfl : kCode e1 (run e1 lf k) (Go.Proofs.Tryz.f7).ntmps lf (Code.ofFunc Go.Proofs.Tryz.f7) (kRet e1 (Go.Proofs.Tryz.f7).results.toList) (argF [x0, x1]) h = furlonglaw19_PartTicks lf (run e1 lf k) x0 x1 h).trans hr)

end Go.Zs.L7
