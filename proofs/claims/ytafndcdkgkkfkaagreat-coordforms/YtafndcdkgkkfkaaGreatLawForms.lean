/- The typed form of the program's functions: written by gen.py. -/
import Derived.Test.YtafndcdkgkkfkaaGreatSumK
set_option linter.unusedVariables false
namespace Go.Zs.L6
open Go.Zs
open Go
abbrev n_furlonglaw20_CoordForms : Nat := 6
abbrev n_furlonglaw20_awake : Nat := 10
abbrev n_furlongref1_First : Nat := 11
abbrev n_furlonglaw20_made : Nat := 12
abbrev n_coord_Coord_Start : Nat := 13
abbrev n_furlonglaw20_puts : Nat := 14
abbrev n_furlonglaw0_Num : Nat := 15
abbrev n_wal_Wal_Room : Nat := 25
abbrev n_coord_New : Nat := 26
abbrev t_api_Tx : Nat := 41

/-! furlong/furlonglaw20.CoordForms -/
noncomputable def furlonglaw20_CoordForms_j1 (lf : Nat) (call : CallF) (f : Fs) (y7 : V) (y8 : V) (y9 : V) (y10 : V) (y11 : V) (y12 : V) (h : Heap) : Option (V × Heap) :=
  ldA 10 y8 h fun v25 =>
  bindVH (call false n_furlonglaw20_made [(V.int .i64 0), (V.int .i64 2), v25, y12] h) fun v26 h27 =>
  exK 0 v26 fun v28 =>
  exK 1 v26 fun v29 =>
  exK 2 v26 fun v30 =>
  exK 3 v26 fun v31 =>
  exK 4 v26 fun v32 =>
  unK .not v32 fun v33 =>
  cndV v33 (some (tupV [(V.bool false)], h27)) (bindVH (call false n_wal_Wal_Room [v30] h27) fun v34 h35 =>
  bindVH (call false n_coord_Coord_Start [v29, y9, y10] h35) fun v36 h37 =>
  exK 0 v36 fun v38 =>
  exK 1 v36 fun v39 =>
  exK 2 v36 fun v40 =>
  newC [(V.int .i64 0), (V.int .i64 0)] h37 fun v41 h42 =>
  stA 2 v41 v38 h42 fun h43 =>
  unK .neg y7 fun v44 =>
  fil1 9 v44 [(V.int .i64 0), (V.sl none 0 0 0 true), (V.sl none 0 0 0 true), (V.sl none 0 0 0 true), (V.int .i64 0), (V.sl none 0 0 0 true), (V.sl none 0 0 0 true), (V.sl none 0 0 0 true), (V.sl none 0 0 0 true), (V.int .i64 0)] fun c45 =>
  bindVH (call false n_coord_New [(V.int .i64 0), (V.int .i64 2), (V.agg c45), v28, v30] h43) fun v46 h47 =>
  exK 0 v46 fun v48 =>
  exK 1 v46 fun v49 =>
  exK 2 v46 fun v50 =>
  fil1 0 (V.int .i64 1) [(V.int .i64 0), (V.int .i64 0)] fun c51 =>
  fil1 1 (V.int .i64 1) c51 fun c52 =>
  filA 0 2 (V.agg c52) [(V.int .i64 0), (V.int .i64 0), (V.sl none 0 0 0 true)] fun c53 =>
  filA 0 3 (V.agg c53) [(V.int .i64 0), (V.int .i64 0), (V.sl none 0 0 0 true)] fun c54 =>
  newS 1 3 c54 h47 fun v56 h55 =>
  fil1 6 v56 [(V.int .i64 0), (V.sl none 0 0 0 true), (V.sl none 0 0 0 true), (V.sl none 0 0 0 true), (V.int .i64 0), (V.sl none 0 0 0 true), (V.sl none 0 0 0 true), (V.sl none 0 0 0 true), (V.sl none 0 0 0 true), (V.int .i64 0)] fun c57 =>
  bindVH (call false n_coord_New [(V.int .i64 0), (V.int .i64 2), (V.agg c57), v28, v30] h55) fun v58 h59 =>
  exK 0 v58 fun v60 =>
  exK 1 v58 fun v61 =>
  exK 2 v58 fun v62 =>
  bindVH (call false n_coord_New [(V.int .i64 0), (V.int .i64 2), (V.agg [(V.int .i64 0), (V.sl none 0 0 0 true), (V.sl none 0 0 0 true), (V.sl none 0 0 0 true), (V.int .i64 0), (V.sl none 0 0 0 true), (V.sl none 0 0 0 true), (V.sl none 0 0 0 true), (V.sl none 0 0 0 true), (V.int .i64 0)]), (V.ptr none), v30] h59) fun v63 h64 =>
  exK 0 v63 fun v65 =>
  exK 1 v63 fun v66 =>
  exK 2 v63 fun v67 =>
  ldA 2 v41 h64 fun v68 =>
  binV e1 .eql t_api_Tx v68 (V.agg [(V.int .i64 0), (V.int .i64 0)]) h64 fun v69 =>
  gdP v69 true (some v39) fun v70 =>
  gdP v69 true (lenL v70 fun v72 =>
  some v72) fun v71 =>
  gdP v69 true (intK .eql v71 (V.int .i64 0) fun v74 =>
  some v74) fun v73 =>
  pkK v69 v73 (V.bool false) fun v75 =>
  gdP v75 true (some v40) fun v76 =>
  gdE v75 true (bindVH (call false n_furlonglaw0_Num [v76] h64) fun v79 h80 =>
  some (v79, h80)) h64 fun v77 h78 =>
  gdP v75 true (some y11) fun v81 =>
  gdP v75 true (intK .eql v77 v81 fun v83 =>
  some v83) fun v82 =>
  pkK v75 v82 (V.bool false) fun v84 =>
  gdP v84 true (some v30) fun v85 =>
  gdE v84 true (bindVH (call false n_wal_Wal_Room [v85] h78) fun v88 h89 =>
  some (v88, h89)) h78 fun v86 h87 =>
  gdP v84 true (some v34) fun v90 =>
  gdP v84 true (intK .eql v86 v90 fun v92 =>
  some v92) fun v91 =>
  pkK v84 v91 (V.bool false) fun v93 =>
  gdP v93 true (some v50) fun v94 =>
  gdE v93 true (bindVH (call false n_furlonglaw0_Num [v94] h87) fun v97 h98 =>
  some (v97, h98)) h87 fun v95 h96 =>
  gdP v93 true (intK .eql v95 (V.int .i64 2000) fun v100 =>
  some v100) fun v99 =>
  pkK v93 v99 (V.bool false) fun v101 =>
  gdP v101 true (some v62) fun v102 =>
  gdE v101 true (bindVH (call false n_furlonglaw0_Num [v102] h96) fun v105 h106 =>
  some (v105, h106)) h96 fun v103 h104 =>
  gdP v101 true (intK .eql v103 (V.int .i64 2000) fun v108 =>
  some v108) fun v107 =>
  pkK v101 v107 (V.bool false) fun v109 =>
  gdP v109 true (some v67) fun v110 =>
  gdE v109 true (bindVH (call false n_furlonglaw0_Num [v110] h104) fun v113 h114 =>
  some (v113, h114)) h104 fun v111 h112 =>
  gdP v109 true (intK .eql v111 (V.int .i64 1) fun v116 =>
  some v116) fun v115 =>
  pkK v109 v115 (V.bool false) fun v117 =>
  some (tupV [v117], h112))
noncomputable def furlonglaw20_CoordForms (lf : Nat) (call : CallF) (x0 x1 : V) (h : Heap) : Option (V × Heap) :=
  bindVH (call false n_furlonglaw20_awake [] h) fun v1 h2 =>
  unK .not v1 fun v3 =>
  cndV v3 (some (tupV [(V.bool false)], h2)) (bindVH (call false n_furlongref1_First [(V.int .i64 2)] h2) fun v4 h5 =>
  exK 0 v4 fun v6 =>
  exK 1 v4 fun v7 =>
  newC [(V.int .i64 0), (V.sl none 0 0 0 true), (V.sl none 0 0 0 true)] h5 fun v8 h9 =>
  stA 3 v8 v6 h9 fun h10 =>
  intK .and x1 (V.int .i64 63) fun v11 =>
  intK .add (V.int .i64 1) v11 fun v12 =>
  ldA 3 v8 h10 fun v13 =>
  filA 0 3 v13 [(V.int .i64 0), (V.sl none 0 0 0 true), (V.sl none 0 0 0 true), (V.sl none 0 0 0 true), (V.int .i64 0), (V.sl none 0 0 0 true), (V.sl none 0 0 0 true), (V.sl none 0 0 0 true), (V.sl none 0 0 0 true), (V.int .i64 0)] fun c14 =>
  fil1 9 (V.int .i64 5) c14 fun c15 =>
  newC [(V.int .i64 0), (V.sl none 0 0 0 true), (V.sl none 0 0 0 true), (V.sl none 0 0 0 true), (V.int .i64 0), (V.sl none 0 0 0 true), (V.sl none 0 0 0 true), (V.sl none 0 0 0 true), (V.sl none 0 0 0 true), (V.int .i64 0)] h10 fun v16 h17 =>
  stA 10 v16 (V.agg c15) h17 fun h18 =>
  bindVH (call false n_furlonglaw20_puts [(V.int .i64 3)] h18) fun v19 h20 =>
  cvI .u64 x0 fun v21 =>
  intK .rem v21 (V.int .u64 5) fun v22 =>
  intK .eql v22 (V.int .u64 0) fun v23 =>
  cndV v23 (intK .sub (V.int .i64 (-1)) v12 fun v24 =>
  furlonglaw20_CoordForms_j1 lf call (updL 146 (argF [x0, x1]) [(4, (V.bool false)), (31, v1), (32, v3), (34, v4), (33, v4), (35, v6), (36, v7), (5, v8), (6, v7), (37, x1), (38, v11), (39, v12), (7, v12), (40, v13), (41, (V.agg c15)), (8, v16), (42, v19), (9, (V.int .i64 (-1))), (10, v19), (11, (V.int .i64 2000)), (12, (V.int .i64 60)), (43, x0), (44, v21), (45, v22), (52, v23), (51, v23), (53, v12), (54, v24), (9, v24)]) v12 v16 v24 v19 (V.int .i64 2000) (V.int .i64 60) h20) (intK .eql v22 (V.int .u64 1) fun v118 =>
  cndV v118 (furlonglaw20_CoordForms_j1 lf call (updL 146 (argF [x0, x1]) [(4, (V.bool false)), (31, v1), (32, v3), (34, v4), (33, v4), (35, v6), (36, v7), (5, v8), (6, v7), (37, x1), (38, v11), (39, v12), (7, v12), (40, v13), (41, (V.agg c15)), (8, v16), (42, v19), (9, (V.int .i64 (-1))), (10, v19), (11, (V.int .i64 2000)), (12, (V.int .i64 60)), (43, x0), (44, v21), (45, v22), (52, v23), (51, v23), (56, v118), (55, v118), (10, (V.sl none 0 0 0 true))]) v12 v16 (V.int .i64 (-1)) (V.sl none 0 0 0 true) (V.int .i64 2000) (V.int .i64 60) h20) (intK .eql v22 (V.int .u64 2) fun v119 =>
  cndV v119 (faK 9 v16 fun v120 =>
  st1 v120 (V.int .i64 65535) h20 fun h121 =>
  furlonglaw20_CoordForms_j1 lf call (updL 146 (argF [x0, x1]) [(4, (V.bool false)), (31, v1), (32, v3), (34, v4), (33, v4), (35, v6), (36, v7), (5, v8), (6, v7), (37, x1), (38, v11), (39, v12), (7, v12), (40, v13), (41, (V.agg c15)), (8, v16), (42, v19), (9, (V.int .i64 (-1))), (10, v19), (11, (V.int .i64 2000)), (12, (V.int .i64 60)), (43, x0), (44, v21), (45, v22), (52, v23), (51, v23), (56, v118), (55, v118), (58, v119), (57, v119), (59, v120)]) v12 v16 (V.int .i64 (-1)) v19 (V.int .i64 2000) (V.int .i64 60) h121) (intK .eql v22 (V.int .u64 3) fun v122 =>
  cndV v122 (furlonglaw20_CoordForms_j1 lf call (updL 146 (argF [x0, x1]) [(4, (V.bool false)), (31, v1), (32, v3), (34, v4), (33, v4), (35, v6), (36, v7), (5, v8), (6, v7), (37, x1), (38, v11), (39, v12), (7, v12), (40, v13), (41, (V.agg c15)), (8, v16), (42, v19), (9, (V.int .i64 (-1))), (10, v19), (11, (V.int .i64 2000)), (12, (V.int .i64 60)), (43, x0), (44, v21), (45, v22), (52, v23), (51, v23), (56, v118), (55, v118), (58, v119), (57, v119), (61, v122), (60, v122), (12, (V.int .i64 2)), (11, (V.int .i64 1001))]) v12 v16 (V.int .i64 (-1)) v19 (V.int .i64 1001) (V.int .i64 2) h20) (fil1 0 (V.int .i64 0) [(V.int .i64 0)] fun c123 =>
  newS 1 1 c123 h20 fun v125 h124 =>
  fil1 0 (V.int .i64 2) [(V.int .i64 0)] fun c126 =>
  newS 1 1 c126 h124 fun v128 h127 =>
  fil1 0 (V.int .i64 1) [(V.int .i64 0), (V.sl none 0 0 0 true), (V.sl none 0 0 0 true)] fun c129 =>
  fil1 1 v125 c129 fun c130 =>
  fil1 2 v128 c130 fun c131 =>
  fil1 0 (V.int .i64 2) [(V.int .i64 0), (V.int .i64 0), (V.int .i64 0), (V.sl none 0 0 0 true), (V.int .i64 0), (V.int .i64 0), (V.sl none 0 0 0 true), (V.sl none 0 0 0 true)] fun c132 =>
  filA 5 3 (V.agg c131) c132 fun c133 =>
  filA 0 8 (V.agg c133) [(V.int .i64 0), (V.int .i64 0), (V.int .i64 0), (V.sl none 0 0 0 true), (V.int .i64 0), (V.int .i64 0), (V.sl none 0 0 0 true), (V.sl none 0 0 0 true)] fun c134 =>
  newS 1 8 c134 h127 fun v136 h135 =>
  furlonglaw20_CoordForms_j1 lf call (updL 146 (argF [x0, x1]) [(4, (V.bool false)), (31, v1), (32, v3), (34, v4), (33, v4), (35, v6), (36, v7), (5, v8), (6, v7), (37, x1), (38, v11), (39, v12), (7, v12), (40, v13), (41, (V.agg c15)), (8, v16), (42, v19), (9, (V.int .i64 (-1))), (10, v19), (11, (V.int .i64 2000)), (12, (V.int .i64 60)), (43, x0), (44, v21), (45, v22), (52, v23), (51, v23), (56, v118), (55, v118), (58, v119), (57, v119), (61, v122), (60, v122), (46, v125), (47, v128), (48, (V.agg c131)), (49, (V.agg c133)), (50, v136), (10, v136)]) v12 v16 (V.int .i64 (-1)) v136 (V.int .i64 2000) (V.int .i64 60) h135)))))
theorem furlonglaw20_CoordForms_run {lf k : Nat} {x0 x1 : V} {h : Heap} {r : V × Heap} (hr : furlonglaw20_CoordForms lf (run e1 lf k) x0 x1 h = some r) : run e1 lf (k + 1) false n_furlonglaw20_CoordForms [x0, x1] h = some r :=
  run_of rfl Go.Proofs.Tryz.func6 (c := Code.ofFunc Go.Proofs.Tryz.f6) (by kernel_rfl) (by kernel_rfl) ((by kernel_rfl : kCode e1 (run e1 lf k) (Go.Proofs.Tryz.f6).ntmps lf (Code.ofFunc Go.Proofs.Tryz.f6) (kRet e1 (Go.Proofs.Tryz.f6).results.toList) (argF [x0, x1]) h = furlonglaw20_CoordForms lf (run e1 lf k) x0 x1 h).trans hr)

end Go.Zs.L6
