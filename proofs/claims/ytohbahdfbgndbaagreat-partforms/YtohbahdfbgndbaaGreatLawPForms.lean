/- The typed form of the program's functions: written by gen.py. -/
import Derived.Test.YtohbahdfbgndbaaGreatSumP
set_option linter.unusedVariables false
namespace Go.Zs.L9
open Go.Zs
open Go
abbrev n_furlonglaw19_PartForms : Nat := 9
abbrev n_furlonglaw19_awake : Nat := 12
abbrev n_furlonglaw19_opened : Nat := 13
abbrev n_part_Part_Prepare : Nat := 14
abbrev n_furlonglaw19_puts : Nat := 15
abbrev n_wal_Wal_Next : Nat := 16
abbrev n_part_Part_Decide : Nat := 18
abbrev n_furlonglaw0_Num : Nat := 19
abbrev n_part_Part_Decided : Nat := 21
abbrev n_part_Part_Store : Nat := 22
abbrev n_store_Store_Map : Nat := 23
abbrev n_part_Part_Prepared : Nat := 25
abbrev n_part_New : Nat := 35

/-! furlong/furlonglaw19.PartForms -/
noncomputable def furlonglaw19_PartForms_j1 (lf : Nat) (call : CallF) (f : Fs) (y5 : V) (y6 : V) (y8 : V) (y9 : V) (y10 : V) (y11 : V) (h : Heap) : Option (V × Heap) :=
  ldA 2 y9 h fun v25 =>
  bindVH (call false n_part_Part_Prepare [y5, v25, y10, y11] h) fun v26 h27 =>
  exK 0 v26 fun v28 =>
  exK 1 v26 fun v29 =>
  unK .neg y8 fun v30 =>
  fil1 1 v30 [(V.int .i64 0), (V.int .i64 0)] fun c31 =>
  bindVH (call false n_part_Part_Decide [y5, (V.agg c31), (V.bool true)] h27) fun v32 h33 =>
  exK 0 v32 fun v34 =>
  exK 1 v32 fun v35 =>
  bindVH (call false n_part_New [(V.int .i64 0), (V.int .i64 2), (V.agg [(V.int .i64 0), (V.sl none 0 0 0 true), (V.sl none 0 0 0 true), (V.sl none 0 0 0 true), (V.int .i64 0), (V.sl none 0 0 0 true), (V.sl none 0 0 0 true), (V.sl none 0 0 0 true), (V.sl none 0 0 0 true), (V.int .i64 0)]), y6] h33) fun v36 h37 =>
  exK 0 v36 fun v38 =>
  exK 1 v36 fun v39 =>
  bindVH (call false n_part_Part_Store [y5] h37) fun v40 h41 =>
  bindVH (call false n_store_Store_Map [v40] h41) fun v42 h43 =>
  filA 0 3 v42 [(V.int .i64 0), (V.sl none 0 0 0 true), (V.sl none 0 0 0 true), (V.sl none 0 0 0 true), (V.int .i64 0), (V.sl none 0 0 0 true), (V.sl none 0 0 0 true), (V.sl none 0 0 0 true), (V.sl none 0 0 0 true), (V.int .i64 0)] fun c44 =>
  bindVH (call false n_part_New [(V.int .i64 0), (V.int .i64 2), (V.agg c44), (V.ptr none)] h43) fun v45 h46 =>
  exK 0 v45 fun v47 =>
  exK 1 v45 fun v48 =>
  unK .not v28 fun v49 =>
  gdP v49 true (some v29) fun v50 =>
  gdE v49 true (bindVH (call false n_furlonglaw0_Num [v50] h46) fun v53 h54 =>
  some (v53, h54)) h46 fun v51 h52 =>
  gdP v49 true (intK .eql v51 (V.int .i64 1900) fun v56 =>
  some v56) fun v55 =>
  pkK v49 v55 (V.bool false) fun v57 =>
  gdP v57 true (some v34) fun v58 =>
  gdP v57 true (unK .not v58 fun v60 =>
  some v60) fun v59 =>
  pkK v57 v59 (V.bool false) fun v61 =>
  gdP v61 true (some v35) fun v62 =>
  gdE v61 true (bindVH (call false n_furlonglaw0_Num [v62] h52) fun v65 h66 =>
  some (v65, h66)) h52 fun v63 h64 =>
  gdP v61 true (intK .eql v63 (V.int .i64 1900) fun v68 =>
  some v68) fun v67 =>
  pkK v61 v67 (V.bool false) fun v69 =>
  gdP v69 true (some v39) fun v70 =>
  gdE v69 true (bindVH (call false n_furlonglaw0_Num [v70] h64) fun v73 h74 =>
  some (v73, h74)) h64 fun v71 h72 =>
  gdP v69 true (intK .eql v71 (V.int .i64 1900) fun v76 =>
  some v76) fun v75 =>
  pkK v69 v75 (V.bool false) fun v77 =>
  gdP v77 true (some v48) fun v78 =>
  gdE v77 true (bindVH (call false n_furlonglaw0_Num [v78] h72) fun v81 h82 =>
  some (v81, h82)) h72 fun v79 h80 =>
  gdP v77 true (intK .eql v79 (V.int .i64 1) fun v84 =>
  some v84) fun v83 =>
  pkK v77 v83 (V.bool false) fun v85 =>
  gdP v85 true (some y6) fun v86 =>
  gdE v85 true (bindVH (call false n_wal_Wal_Next [v86] h80) fun v89 h90 =>
  some (v89, h90)) h80 fun v87 h88 =>
  gdP v85 true (intK .eql v87 (V.int .i64 0) fun v92 =>
  some v92) fun v91 =>
  pkK v85 v91 (V.bool false) fun v93 =>
  gdP v93 true (some y5) fun v94 =>
  gdE v93 true (bindVH (call false n_part_Part_Prepared [v94] h88) fun v97 h98 =>
  some (v97, h98)) h88 fun v95 h96 =>
  gdP v93 true (lenL v95 fun v100 =>
  some v100) fun v99 =>
  gdP v93 true (some y5) fun v101 =>
  gdE v93 true (bindVH (call false n_part_Part_Decided [v101] h96) fun v104 h105 =>
  some (v104, h105)) h96 fun v102 h103 =>
  gdP v93 true (lenL v102 fun v107 =>
  some v107) fun v106 =>
  gdP v93 true (intK .add v99 v106 fun v109 =>
  some v109) fun v108 =>
  gdP v93 true (intK .eql v108 (V.int .i64 0) fun v111 =>
  some v111) fun v110 =>
  pkK v93 v110 (V.bool false) fun v112 =>
  some (tupV [v112], h103)
noncomputable def furlonglaw19_PartForms (lf : Nat) (call : CallF) (x0 x1 : V) (h : Heap) : Option (V × Heap) :=
  bindVH (call false n_furlonglaw19_awake [] h) fun v1 h2 =>
  unK .not v1 fun v3 =>
  cndV v3 (some (tupV [(V.bool false)], h2)) (bindVH (call false n_furlonglaw19_opened [(V.int .i64 2), (V.int .i64 60)] h2) fun v4 h5 =>
  exK 0 v4 fun v6 =>
  exK 1 v4 fun v7 =>
  exK 2 v4 fun v8 =>
  unK .not v8 fun v9 =>
  cndV v9 (some (tupV [(V.bool false)], h5)) (intK .and x1 (V.int .i64 63) fun v10 =>
  intK .add (V.int .i64 1) v10 fun v11 =>
  fil1 0 (V.int .i64 1) [(V.int .i64 0), (V.int .i64 0)] fun c12 =>
  fil1 1 (V.int .i64 1) c12 fun c13 =>
  bindVH (call false n_furlonglaw19_puts [(V.int .i64 3)] h5) fun v14 h15 =>
  newC [(V.int .i64 0), (V.int .i64 0)] h15 fun v16 h17 =>
  stA 2 v16 (V.agg c13) h17 fun h18 =>
  cvI .u64 x0 fun v19 =>
  intK .rem v19 (V.int .u64 6) fun v20 =>
  intK .eql v20 (V.int .u64 0) fun v21 =>
  cndV v21 (intK .sub (V.int .i64 1) v11 fun v22 =>
  faK 1 v16 fun v23 =>
  st1 v23 v22 h18 fun h24 =>
  furlonglaw19_PartForms_j1 lf call (updL 133 (argF [x0, x1]) [(4, (V.bool false)), (20, v1), (21, v3), (23, v4), (22, v4), (24, v6), (25, v7), (26, v8), (5, v6), (6, v7), (7, v8), (27, v8), (28, v9), (29, x1), (30, v10), (31, v11), (8, v11), (32, (V.agg c13)), (33, v14), (9, v16), (10, (V.int .i64 (-1))), (11, v14), (34, x0), (35, v19), (36, v20), (43, v21), (42, v21), (44, v11), (45, v22), (46, v23)]) v6 v7 v11 v16 (V.int .i64 (-1)) v14 h24) (intK .eql v20 (V.int .u64 1) fun v113 =>
  cndV v113 (intK .add (V.int .i64 7) v11 fun v114 =>
  faK 0 v16 fun v115 =>
  st1 v115 v114 h18 fun h116 =>
  furlonglaw19_PartForms_j1 lf call (updL 133 (argF [x0, x1]) [(4, (V.bool false)), (20, v1), (21, v3), (23, v4), (22, v4), (24, v6), (25, v7), (26, v8), (5, v6), (6, v7), (7, v8), (27, v8), (28, v9), (29, x1), (30, v10), (31, v11), (8, v11), (32, (V.agg c13)), (33, v14), (9, v16), (10, (V.int .i64 (-1))), (11, v14), (34, x0), (35, v19), (36, v20), (43, v21), (42, v21), (48, v113), (47, v113), (49, v11), (50, v114), (51, v115)]) v6 v7 v11 v16 (V.int .i64 (-1)) v14 h116) (intK .eql v20 (V.int .u64 2) fun v117 =>
  cndV v117 (intK .sub (V.int .i64 (-1)) v11 fun v118 =>
  furlonglaw19_PartForms_j1 lf call (updL 133 (argF [x0, x1]) [(4, (V.bool false)), (20, v1), (21, v3), (23, v4), (22, v4), (24, v6), (25, v7), (26, v8), (5, v6), (6, v7), (7, v8), (27, v8), (28, v9), (29, x1), (30, v10), (31, v11), (8, v11), (32, (V.agg c13)), (33, v14), (9, v16), (10, (V.int .i64 (-1))), (11, v14), (34, x0), (35, v19), (36, v20), (43, v21), (42, v21), (48, v113), (47, v113), (53, v117), (52, v117), (54, v11), (55, v118), (10, v118)]) v6 v7 v11 v16 v118 v14 h18) (intK .eql v20 (V.int .u64 3) fun v119 =>
  cndV v119 (intK .add (V.int .i64 65535) v11 fun v120 =>
  furlonglaw19_PartForms_j1 lf call (updL 133 (argF [x0, x1]) [(4, (V.bool false)), (20, v1), (21, v3), (23, v4), (22, v4), (24, v6), (25, v7), (26, v8), (5, v6), (6, v7), (7, v8), (27, v8), (28, v9), (29, x1), (30, v10), (31, v11), (8, v11), (32, (V.agg c13)), (33, v14), (9, v16), (10, (V.int .i64 (-1))), (11, v14), (34, x0), (35, v19), (36, v20), (43, v21), (42, v21), (48, v113), (47, v113), (53, v117), (52, v117), (57, v119), (56, v119), (58, v11), (59, v120), (10, v120)]) v6 v7 v11 v16 v120 v14 h18) (intK .eql v20 (V.int .u64 4) fun v121 =>
  cndV v121 (furlonglaw19_PartForms_j1 lf call (updL 133 (argF [x0, x1]) [(4, (V.bool false)), (20, v1), (21, v3), (23, v4), (22, v4), (24, v6), (25, v7), (26, v8), (5, v6), (6, v7), (7, v8), (27, v8), (28, v9), (29, x1), (30, v10), (31, v11), (8, v11), (32, (V.agg c13)), (33, v14), (9, v16), (10, (V.int .i64 (-1))), (11, v14), (34, x0), (35, v19), (36, v20), (43, v21), (42, v21), (48, v113), (47, v113), (53, v117), (52, v117), (57, v119), (56, v119), (61, v121), (60, v121), (11, (V.sl none 0 0 0 true))]) v6 v7 v11 v16 (V.int .i64 (-1)) (V.sl none 0 0 0 true) h18) (fil1 0 (V.int .i64 0) [(V.int .i64 0)] fun c122 =>
  newS 1 1 c122 h18 fun v124 h123 =>
  fil1 0 (V.int .i64 2) [(V.int .i64 0)] fun c125 =>
  newS 1 1 c125 h123 fun v127 h126 =>
  fil1 0 (V.int .i64 1) [(V.int .i64 0), (V.sl none 0 0 0 true), (V.sl none 0 0 0 true)] fun c128 =>
  fil1 1 v124 c128 fun c129 =>
  fil1 2 v127 c129 fun c130 =>
  fil1 0 (V.int .i64 2) [(V.int .i64 0), (V.int .i64 0), (V.int .i64 0), (V.sl none 0 0 0 true), (V.int .i64 0), (V.int .i64 0), (V.sl none 0 0 0 true), (V.sl none 0 0 0 true)] fun c131 =>
  filA 5 3 (V.agg c130) c131 fun c132 =>
  filA 0 8 (V.agg c132) [(V.int .i64 0), (V.int .i64 0), (V.int .i64 0), (V.sl none 0 0 0 true), (V.int .i64 0), (V.int .i64 0), (V.sl none 0 0 0 true), (V.sl none 0 0 0 true)] fun c133 =>
  newS 1 8 c133 h126 fun v135 h134 =>
  furlonglaw19_PartForms_j1 lf call (updL 133 (argF [x0, x1]) [(4, (V.bool false)), (20, v1), (21, v3), (23, v4), (22, v4), (24, v6), (25, v7), (26, v8), (5, v6), (6, v7), (7, v8), (27, v8), (28, v9), (29, x1), (30, v10), (31, v11), (8, v11), (32, (V.agg c13)), (33, v14), (9, v16), (10, (V.int .i64 (-1))), (11, v14), (34, x0), (35, v19), (36, v20), (43, v21), (42, v21), (48, v113), (47, v113), (53, v117), (52, v117), (57, v119), (56, v119), (61, v121), (60, v121), (37, v124), (38, v127), (39, (V.agg c130)), (40, (V.agg c132)), (41, v135), (11, v135)]) v6 v7 v11 v16 (V.int .i64 (-1)) v135 h134)))))))
theorem furlonglaw19_PartForms_run {lf k : Nat} {x0 x1 : V} {h : Heap} {r : V × Heap} (hr : furlonglaw19_PartForms lf (run e1 lf k) x0 x1 h = some r) : run e1 lf (k + 1) false n_furlonglaw19_PartForms [x0, x1] h = some r :=
  run_of rfl Go.Proofs.Tryz.func9 (c := Code.ofFunc Go.Proofs.Tryz.f9) (by kernel_rfl) (by kernel_rfl) ((by kernel_rfl : kCode e1 (run e1 lf k) (Go.Proofs.Tryz.f9).ntmps lf (Code.ofFunc Go.Proofs.Tryz.f9) (kRet e1 (Go.Proofs.Tryz.f9).results.toList) (argF [x0, x1]) h = furlonglaw19_PartForms lf (run e1 lf k) x0 x1 h).trans hr)

end Go.Zs.L9
