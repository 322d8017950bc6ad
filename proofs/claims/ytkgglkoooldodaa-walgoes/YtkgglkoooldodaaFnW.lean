/- The typed form of the program's functions: written by gen.py. -/
import Derived.Test.YtkgglkoooldodaaSumW
set_option linter.unusedVariables false
set_option linter.unusedSimpArgs false
set_option linter.deprecated false
set_option linter.unusedVariables false
namespace Go.Zs
open Go
abbrev n_furlonglaw10_WalHolds : Nat := 3
abbrev n_furlonglaw10_WalGoes : Nat := 4
abbrev n_furlonglaw10_WalForms : Nat := 5
abbrev n_furlonglaw10_awake : Nat := 7
abbrev n_disk_New : Nat := 8
abbrev n_wal_Open : Nat := 9
abbrev n_furlonglaw0_Num : Nat := 10
abbrev n_wal_Wal_Hold : Nat := 11
abbrev n_wal_Wal_Room : Nat := 12
abbrev n_wal_Wal_Append : Nat := 13
abbrev n_wal_Wal_Use : Nat := 14
abbrev n_wal_Wal_Next : Nat := 15
abbrev n_furlonglaw0_SameTexts : Nat := 16
abbrev n_wal_Wal_Free : Nat := 17
abbrev n_disk_Disk_Read : Nat := 25
abbrev n_wal_Wal_Force : Nat := 27
abbrev n_slices_Repeat_string_string : Nat := 29
abbrev n_frame_Get : Nat := 30
abbrev n_wal_rest : Nat := 31
abbrev n_wal_Wal_clean : Nat := 32
abbrev n_sync_atomic_Int64_Add : Nat := 33
abbrev n_disk_Disk_Sectors : Nat := 34
abbrev n_sync_atomic_Int64_Load : Nat := 35
abbrev n_frame_Sectors : Nat := 36
abbrev n_wal_Wal_write : Nat := 37
abbrev n_disk_Disk_Write : Nat := 44
abbrev n_disk_Disk_Sync : Nat := 48
abbrev n_disk_Disk_clean : Nat := 51
abbrev n_math_bits_Mul : Nat := 52
abbrev n_frame_Put : Nat := 53
abbrev n_sync_atomic_Int64_Store : Nat := 65
abbrev n_math_bits_Mul32 : Nat := 66
abbrev n_math_bits_Mul64 : Nat := 67
abbrev n_frame_Num : Nat := 68
abbrev n_crc_Sum : Nat := 69
abbrev t_bool : Nat := 4
abbrev t_s_string : Nat := 28
abbrev t_map_int_string : Nat := 61

/-! furlong/furlonglaw10.WalHolds -/
noncomputable def furlonglaw10_WalHolds_l1 {R : Type} (lf : Nat) (call : CallF) (K : Out → Fs → Heap → Option R) (f : Fs) (h : Heap) : Option R :=
  intK .lss (f 18) (V.int .i64 20) fun v54 =>
  cndV v54 (bindVH (call false n_wal_Wal_Append [(f 10), (f 15)] h) fun v55 h56 =>
  bindVH (call false n_furlonglaw0_Num [v55] h56) fun v57 h58 =>
  intK .neq v57 (V.int .i64 0) fun v59 =>
  cndV v59 (K (.exit 0) (updL 135 f [(81, (f 18)), (82, v54), (85, (f 10)), (86, (f 15)), (87, v55), (19, v55), (88, v55), (89, v57), (90, v59)]) h58) (intK .add (f 17) (V.int .i64 1) fun v60 =>
  intK .add (f 18) (V.int .i64 1) fun v61 =>
  K .normal (updL 135 f [(81, (f 18)), (82, v54), (85, (f 10)), (86, (f 15)), (87, v55), (19, v55), (88, v55), (89, v57), (90, v59), (91, (f 17)), (92, v60), (17, v60), (83, (f 18)), (84, v61), (18, v61)]) h58)) (K (.exit 0) (updL 135 f [(81, (f 18)), (82, v54)]) h)
noncomputable def furlonglaw10_WalHolds_l2 {R : Type} (lf : Nat) (call : CallF) (K : Out → Fs → Heap → Option R) (f : Fs) (h : Heap) : Option R :=
  intK .lss (f 20) (f 13) fun v83 =>
  cndV v83 (bindVH (call false n_wal_Wal_Use [(f 10), (V.str [100])] h) fun v84 h85 =>
  bindVH (call false n_furlonglaw0_Num [v84] h85) fun v86 h87 =>
  intK .neq v86 (V.int .i64 0) fun v88 =>
  cndV v88 (K .ret (updL 135 f [(112, (f 20)), (113, (f 13)), (114, v83), (117, (f 10)), (118, v84), (21, v84), (119, v84), (120, v86), (121, v88), (6, (V.bool false))]) h87) (intK .add (f 20) (V.int .i64 1) fun v89 =>
  K .normal (updL 135 f [(112, (f 20)), (113, (f 13)), (114, v83), (117, (f 10)), (118, v84), (21, v84), (119, v84), (120, v86), (121, v88), (115, (f 20)), (116, v89), (20, v89)]) h87)) (K (.exit 2) (updL 135 f [(112, (f 20)), (113, (f 13)), (114, v83)]) h)
noncomputable def furlonglaw10_WalHolds_j2 (lf : Nat) (call : CallF) (f : Fs) (y10 : V) (y13 : V) (y17 : V) (h : Heap) : Option (V × Heap) :=
  bindVH (call false n_wal_Wal_Use [y10, (V.str [100])] h) fun v90 h91 =>
  bindVH (call false n_furlonglaw0_Num [v90] h91) fun v92 h93 =>
  intK .eql v92 (V.int .i64 1000) fun v94 =>
  gdP v94 true (some y10) fun v95 =>
  gdE v94 true (bindVH (call false n_wal_Wal_Next [v95] h93) fun v98 h99 =>
  some (v98, h99)) h93 fun v96 h97 =>
  gdP v94 true (some y17) fun v100 =>
  gdP v94 true (some y13) fun v101 =>
  gdP v94 true (intK .add v100 v101 fun v103 =>
  some v103) fun v102 =>
  gdP v94 true (intK .eql v96 v102 fun v105 =>
  some v105) fun v104 =>
  pkK v94 v104 (V.bool false) fun v106 =>
  some (tupV [v106], h97)
noncomputable def furlonglaw10_WalHolds_j1 (lf : Nat) (call : CallF) (f : Fs) (y7 : V) (y10 : V) (y13 : V) (y16 : V) (y17 : V) (h : Heap) : Option (V × Heap) :=
  intK .sub y7 y13 fun v62 =>
  intK .quo v62 y16 fun v63 =>
  intK .neq y17 v63 fun v64 =>
  gdP v64 false (some y10) fun v65 =>
  gdE v64 false (bindVH (call false n_wal_Wal_Room [v65] h) fun v68 h69 =>
  some (v68, h69)) h fun v66 h67 =>
  gdP v64 false (some y7) fun v70 =>
  gdP v64 false (some y13) fun v71 =>
  gdP v64 false (intK .sub v70 v71 fun v73 =>
  some v73) fun v72 =>
  gdP v64 false (some y17) fun v74 =>
  gdP v64 false (some y16) fun v75 =>
  gdP v64 false (intK .mul v74 v75 fun v77 =>
  some v77) fun v76 =>
  gdP v64 false (intK .sub v72 v76 fun v79 =>
  some v79) fun v78 =>
  gdP v64 false (intK .neq v66 v78 fun v81 =>
  some v81) fun v80 =>
  pkK v64 (V.bool true) v80 fun v82 =>
  cndV v82 (some (tupV [(V.bool false)], h67)) (iterK true (furlonglaw10_WalHolds_l2 lf call) (fun o f h => blkK 2 o (furlonglaw10_WalHolds_j2 lf call f (f 10) (f 13) (f 17) h) (seqK o (furlonglaw10_WalHolds_j2 lf call f (f 10) (f 13) (f 17) h) (kRet ee [.tmp 6] o f h))) lf (updL 135 f [(93, y17), (94, y7), (95, y13), (96, v62), (97, y16), (98, v63), (99, v64), (100, v64), (101, v65), (102, v66), (103, v70), (104, v71), (105, v72), (106, v74), (107, v75), (108, v76), (109, v78), (110, v80), (111, v82), (20, (V.int .i64 0))]) h67)
noncomputable def furlonglaw10_WalHolds (lf : Nat) (call : CallF) (x0 x1 x2 : V) (h : Heap) : Option (V × Heap) :=
  bindVH (call false n_furlonglaw10_awake [] h) fun v1 h2 =>
  unK .not v1 fun v3 =>
  cndV v3 (some (tupV [(V.bool false)], h2)) (intK .and x0 (V.int .i64 15) fun v4 =>
  intK .add (V.int .i64 2) v4 fun v5 =>
  bindVH (call false n_disk_New [v5] h2) fun v6 h7 =>
  exK 0 v6 fun v8 =>
  exK 1 v6 fun v9 =>
  bindVH (call false n_wal_Open [v8] h7) fun v10 h11 =>
  exK 0 v10 fun v12 =>
  exK 1 v10 fun v13 =>
  exK 2 v10 fun v14 =>
  bindVH (call false n_furlonglaw0_Num [v9] h11) fun v15 h16 =>
  intK .neq v15 (V.int .i64 0) fun v17 =>
  gdP v17 false (some v14) fun v18 =>
  gdE v17 false (bindVH (call false n_furlonglaw0_Num [v18] h16) fun v21 h22 =>
  some (v21, h22)) h16 fun v19 h20 =>
  gdP v17 false (intK .neq v19 (V.int .i64 0) fun v24 =>
  some v24) fun v23 =>
  pkK v17 (V.bool true) v23 fun v25 =>
  gdP v25 false (some v12) fun v26 =>
  gdP v25 false (refK false (eqPtr 4 v26 (V.ptr none) h20) fun v28 =>
  some v28) fun v27 =>
  pkK v25 (V.bool true) v27 fun v29 =>
  cndV v29 (some (tupV [(V.bool false)], h20)) (intK .and x1 (V.int .i64 15) fun v30 =>
  bindVH (call false n_wal_Wal_Hold [v12, v30] h20) fun v31 h32 =>
  intK .leq v30 v5 fun v33 =>
  binV ee .neq t_bool v31 v33 h32 fun v34 =>
  gdP v34 false (some v12) fun v35 =>
  gdE v34 false (bindVH (call false n_wal_Wal_Hold [v35, (V.int .i64 (-1))] h32) fun v38 h39 =>
  some (v38, h39)) h32 fun v36 h37 =>
  pkK v34 (V.bool true) v36 fun v40 =>
  cndV v40 (some (tupV [(V.bool false)], h37)) (unK .not v31 fun v41 =>
  cndV v41 (bindVH (call false n_wal_Wal_Room [v12] h37) fun v42 h43 =>
  intK .eql v42 v5 fun v44 =>
  some (tupV [v44], h43)) (intK .and x2 (V.int .i64 127) fun v45 =>
  mkS 1 1 [(V.int .u8 0)] v45 v45 h37 fun v46 h47 =>
  cvBS v46 h47 fun v48 =>
  lenS v48 fun v49 =>
  intK .add (V.int .i64 12) v49 fun v50 =>
  intK .add v50 (V.int .i64 64) fun v51 =>
  intK .sub v51 (V.int .i64 1) fun v52 =>
  intK .quo v52 (V.int .i64 64) fun v53 =>
  iterK true (furlonglaw10_WalHolds_l1 lf call) (fun o f h => blkK 0 o (furlonglaw10_WalHolds_j1 lf call f (f 7) (f 10) (f 13) (f 16) (f 17) h) (seqK o (furlonglaw10_WalHolds_j1 lf call f (f 7) (f 10) (f 13) (f 16) (f 17) h) (kRet ee [.tmp 6] o f h))) lf (updL 135 (argF [x0, x1, x2]) [(6, (V.bool false)), (23, v1), (24, v3), (25, x0), (26, v4), (27, v5), (7, v5), (29, v5), (30, v6), (28, v6), (31, v8), (32, v9), (8, v8), (9, v9), (34, v8), (35, v10), (33, v10), (36, v12), (37, v13), (38, v14), (10, v12), (11, v13), (12, v14), (39, v9), (40, v15), (41, v17), (42, v17), (43, v18), (44, v19), (45, v23), (46, v25), (47, v25), (48, v26), (49, v27), (50, v29), (51, x1), (52, v30), (13, v30), (53, v12), (54, v30), (55, v31), (14, v31), (56, v31), (57, v30), (58, v5), (59, v33), (60, v34), (61, v34), (62, v35), (63, v36), (64, v40), (65, v31), (66, v41), (71, x2), (72, v45), (73, v46), (74, v48), (15, v48), (75, v48), (76, v49), (77, v50), (78, v51), (79, v52), (80, v53), (16, v53), (17, (V.int .i64 0)), (18, (V.int .i64 0))]) h47))))
theorem furlonglaw10_WalHolds_run {lf k : Nat} {x0 x1 x2 : V} {h : Heap} {r : V × Heap} (hr : furlonglaw10_WalHolds lf (run ee lf k) x0 x1 x2 h = some r) : run ee lf (k + 1) false n_furlonglaw10_WalHolds [x0, x1, x2] h = some r :=
  run_of rfl Go.Proofs.Try.func3 (c := Code.ofFunc Go.Proofs.Try.f3) (by kernel_rfl) (by kernel_rfl) ((by kernel_rfl : kCode ee (run ee lf k) (Go.Proofs.Try.f3).ntmps lf (Code.ofFunc Go.Proofs.Try.f3) (kRet ee (Go.Proofs.Try.f3).results.toList) (argF [x0, x1, x2]) h = furlonglaw10_WalHolds lf (run ee lf k) x0 x1 x2 h).trans hr)

/-! furlong/furlonglaw10.WalGoes -/
noncomputable def furlonglaw10_WalGoes_j2 {R : Type} (lf : Nat) (call : CallF) (K : Out → Fs → Heap → Option R) (f : Fs) (y13 : V) (h : Heap) : Option R :=
  intK .add y13 (V.int .i64 1) fun v62 =>
  K .normal (updL 98 f [(66, y13), (67, v62), (13, v62)]) h
noncomputable def furlonglaw10_WalGoes_l2 {R : Type} (lf : Nat) (call : CallF) (K : Out → Fs → Heap → Option R) (f : Fs) (h : Heap) : Option R :=
  lenL (f 12) fun v42 =>
  intK .lss (f 13) v42 fun v43 =>
  gdP v43 true (some (f 13)) fun v44 =>
  gdP v43 true (intK .lss v44 (V.int .i64 9) fun v46 =>
  some v46) fun v45 =>
  pkK v43 v45 (V.bool false) fun v47 =>
  cndV v47 (iaS 1 (f 12) (f 13) fun v48 =>
  ld1 v48 h fun v49 =>
  bindVH (call false n_wal_Wal_Append [(f 9), v49] h) fun v50 h51 =>
  bindVH (call false n_furlonglaw0_Num [v50] h51) fun v52 h53 =>
  intK .eql v52 (V.int .i64 0) fun v54 =>
  cndV v54 (iaS 1 (f 12) (f 13) fun v55 =>
  ld1 v55 h53 fun v56 =>
  fil1 0 v56 [(V.str [])] fun c57 =>
  newS 1 1 c57 h53 fun v59 h58 =>
  appL 1 (f 7) v59 h58 fun v60 h61 =>
  furlonglaw10_WalGoes_j2 lf call K (updL 98 f [(58, (f 13)), (59, (f 12)), (60, v42), (61, v43), (62, v43), (63, v44), (64, v45), (65, v47), (68, (f 9)), (69, (f 12)), (70, (f 13)), (71, v48), (72, v49), (73, v50), (14, v50), (74, v50), (75, v52), (76, v54), (77, (f 7)), (78, (f 12)), (79, (f 13)), (80, v55), (81, v56), (82, v59), (83, v60), (7, v60)]) (f 13) h61) (furlonglaw10_WalGoes_j2 lf call K (updL 98 f [(58, (f 13)), (59, (f 12)), (60, v42), (61, v43), (62, v43), (63, v44), (64, v45), (65, v47), (68, (f 9)), (69, (f 12)), (70, (f 13)), (71, v48), (72, v49), (73, v50), (14, v50), (74, v50), (75, v52), (76, v54)]) (f 13) h53)) (K (.exit 2) (updL 98 f [(58, (f 13)), (59, (f 12)), (60, v42), (61, v43), (62, v43), (63, v44), (64, v45), (65, v47)]) h)
noncomputable def furlonglaw10_WalGoes_j3 {R : Type} (lf : Nat) (call : CallF) (K : Out → Fs → Heap → Option R) (f : Fs) (y8 : V) (h : Heap) : Option R :=
  intK .add y8 (V.int .i64 1) fun v63 =>
  K .normal (updL 98 f [(26, y8), (27, v63), (8, v63)]) h
noncomputable def furlonglaw10_WalGoes_j1 {R : Type} (lf : Nat) (call : CallF) (K : Out → Fs → Heap → Option R) (f : Fs) (h : Heap) : Option R :=
  iterK true (furlonglaw10_WalGoes_l2 lf call) (fun o f h => blkK 2 o (furlonglaw10_WalGoes_j3 lf call K f (f 8) h) (blkK 1 o (furlonglaw10_WalGoes_j3 lf call K f (f 8) h) (seqK o (furlonglaw10_WalGoes_j3 lf call K f (f 8) h) (K o f h)))) lf (updL 98 f [(13, (V.int .i64 0))]) h
noncomputable def furlonglaw10_WalGoes_l1 {R : Type} (lf : Nat) (call : CallF) (K : Out → Fs → Heap → Option R) (f : Fs) (h : Heap) : Option R :=
  intK .lss (f 8) (V.int .i64 2) fun v8 =>
  cndV v8 (bindVH (call false n_wal_Open [(f 5)] h) fun v9 h10 =>
  exK 0 v9 fun v11 =>
  exK 1 v9 fun v12 =>
  exK 2 v9 fun v13 =>
  bindVH (call false n_furlonglaw0_Num [v13] h10) fun v14 h15 =>
  intK .neq v14 (V.int .i64 0) fun v16 =>
  gdP v16 false (some v11) fun v17 =>
  gdP v16 false (refK false (eqPtr 4 v17 (V.ptr none) h15) fun v19 =>
  some v19) fun v18 =>
  pkK v16 (V.bool true) v18 fun v20 =>
  gdP v20 false (some v12) fun v21 =>
  gdP v20 false (some (f 7)) fun v22 =>
  gdE v20 false (bindVH (call false n_furlonglaw0_SameTexts [v21, v22] h15) fun v25 h26 =>
  some (v25, h26)) h15 fun v23 h24 =>
  gdP v20 false (unK .not v23 fun v28 =>
  some v28) fun v27 =>
  pkK v20 (V.bool true) v27 fun v29 =>
  gdP v29 false (some v11) fun v30 =>
  gdE v29 false (bindVH (call false n_wal_Wal_Next [v30] h24) fun v33 h34 =>
  some (v33, h34)) h24 fun v31 h32 =>
  gdP v29 false (some (f 7)) fun v35 =>
  gdP v29 false (lenL v35 fun v37 =>
  some v37) fun v36 =>
  gdP v29 false (intK .neq v31 v36 fun v39 =>
  some v39) fun v38 =>
  pkK v29 (V.bool true) v38 fun v40 =>
  cndV v40 (K .ret (updL 98 f [(24, (f 8)), (25, v8), (29, (f 5)), (30, v9), (28, v9), (31, v11), (32, v12), (33, v13), (9, v11), (10, v12), (11, v13), (34, v13), (35, v14), (36, v16), (37, v16), (38, v17), (39, v18), (40, v20), (41, v20), (42, v21), (43, v22), (44, v23), (45, v27), (46, v29), (47, v29), (48, v30), (49, v31), (50, v35), (51, v36), (52, v38), (53, v40), (4, (V.bool false))]) h32) (intK .eql (f 8) (V.int .i64 1) fun v41 =>
  cndV v41 (furlonglaw10_WalGoes_j1 lf call K (updL 98 f [(24, (f 8)), (25, v8), (29, (f 5)), (30, v9), (28, v9), (31, v11), (32, v12), (33, v13), (9, v11), (10, v12), (11, v13), (34, v13), (35, v14), (36, v16), (37, v16), (38, v17), (39, v18), (40, v20), (41, v20), (42, v21), (43, v22), (44, v23), (45, v27), (46, v29), (47, v29), (48, v30), (49, v31), (50, v35), (51, v36), (52, v38), (53, v40), (54, (f 0)), (12, (f 0)), (55, (f 8)), (56, v41), (57, (f 1)), (12, (f 1))]) h32) (furlonglaw10_WalGoes_j1 lf call K (updL 98 f [(24, (f 8)), (25, v8), (29, (f 5)), (30, v9), (28, v9), (31, v11), (32, v12), (33, v13), (9, v11), (10, v12), (11, v13), (34, v13), (35, v14), (36, v16), (37, v16), (38, v17), (39, v18), (40, v20), (41, v20), (42, v21), (43, v22), (44, v23), (45, v27), (46, v29), (47, v29), (48, v30), (49, v31), (50, v35), (51, v36), (52, v38), (53, v40), (54, (f 0)), (12, (f 0)), (55, (f 8)), (56, v41)]) h32))) (K (.exit 0) (updL 98 f [(24, (f 8)), (25, v8)]) h)
noncomputable def furlonglaw10_WalGoes_j4 (lf : Nat) (call : CallF) (f : Fs) (y5 : V) (y7 : V) (h : Heap) : Option (V × Heap) :=
  bindVH (call false n_wal_Open [y5] h) fun v64 h65 =>
  exK 0 v64 fun v66 =>
  exK 1 v64 fun v67 =>
  exK 2 v64 fun v68 =>
  bindVH (call false n_furlonglaw0_Num [v68] h65) fun v69 h70 =>
  intK .eql v69 (V.int .i64 0) fun v71 =>
  gdP v71 true (some v67) fun v72 =>
  gdP v71 true (some y7) fun v73 =>
  gdE v71 true (bindVH (call false n_furlonglaw0_SameTexts [v72, v73] h70) fun v76 h77 =>
  some (v76, h77)) h70 fun v74 h75 =>
  pkK v71 v74 (V.bool false) fun v78 =>
  some (tupV [v78], h75)
noncomputable def furlonglaw10_WalGoes (lf : Nat) (call : CallF) (x0 x1 : V) (h : Heap) : Option (V × Heap) :=
  bindVH (call false n_furlonglaw10_awake [] h) fun v1 h2 =>
  unK .not v1 fun v3 =>
  cndV v3 (some (tupV [(V.bool false)], h2)) (bindVH (call false n_disk_New [(V.int .i64 1024)] h2) fun v4 h5 =>
  exK 0 v4 fun v6 =>
  exK 1 v4 fun v7 =>
  iterK true (furlonglaw10_WalGoes_l1 lf call) (fun o f h => blkK 0 o (furlonglaw10_WalGoes_j4 lf call f (f 5) (f 7) h) (seqK o (furlonglaw10_WalGoes_j4 lf call f (f 5) (f 7) h) (kRet ee [.tmp 4] o f h))) lf (updL 98 (argF [x0, x1]) [(4, (V.bool false)), (18, v1), (19, v3), (21, v4), (20, v4), (22, v6), (23, v7), (5, v6), (6, v7), (7, (V.sl none 0 0 0 true)), (8, (V.int .i64 0))]) h5)
theorem furlonglaw10_WalGoes_run {lf k : Nat} {x0 x1 : V} {h : Heap} {r : V × Heap} (hr : furlonglaw10_WalGoes lf (run ee lf k) x0 x1 h = some r) : run ee lf (k + 1) false n_furlonglaw10_WalGoes [x0, x1] h = some r :=
  run_of rfl Go.Proofs.Try.func4 (c := Code.ofFunc Go.Proofs.Try.f4) (by kernel_rfl) (by kernel_rfl) ((by kernel_rfl : kCode ee (run ee lf k) (Go.Proofs.Try.f4).ntmps lf (Code.ofFunc Go.Proofs.Try.f4) (kRet ee (Go.Proofs.Try.f4).results.toList) (argF [x0, x1]) h = furlonglaw10_WalGoes lf (run ee lf k) x0 x1 h).trans hr)

/-! furlong/furlonglaw10.WalForms -/
noncomputable def furlonglaw10_WalForms (lf : Nat) (call : CallF) (x0 x1 : V) (h : Heap) : Option (V × Heap) :=
  bindVH (call false n_furlonglaw10_awake [] h) fun v1 h2 =>
  unK .not v1 fun v3 =>
  cndV v3 (some (tupV [(V.bool false)], h2)) (bindVH (call false n_disk_New [(V.int .i64 1024)] h2) fun v4 h5 =>
  exK 0 v4 fun v6 =>
  exK 1 v4 fun v7 =>
  bindVH (call false n_wal_Open [v6] h5) fun v8 h9 =>
  exK 0 v8 fun v10 =>
  exK 1 v8 fun v11 =>
  exK 2 v8 fun v12 =>
  bindVH (call false n_furlonglaw0_Num [v12] h9) fun v13 h14 =>
  intK .neq v13 (V.int .i64 0) fun v15 =>
  gdP v15 false (some v10) fun v16 =>
  gdP v15 false (refK false (eqPtr 4 v16 (V.ptr none) h14) fun v18 =>
  some v18) fun v17 =>
  pkK v15 (V.bool true) v17 fun v19 =>
  cndV v19 (some (tupV [(V.bool false)], h14)) (intK .and x0 (V.int .i64 7) fun v20 =>
  intK .add (V.int .i64 8190) v20 fun v21 =>
  mkS 1 1 [(V.int .u8 0)] v21 v21 h14 fun v22 h23 =>
  cvBS v22 h23 fun v24 =>
  bindVH (call false n_wal_Wal_Append [v10, v24] h23) fun v25 h26 =>
  bindVH (call false n_wal_Wal_Next [v10] h26) fun v27 h28 =>
  bindVH (call false n_wal_Wal_Use [v10, (V.str [120])] h28) fun v29 h30 =>
  bindVH (call false n_wal_Wal_Free [v10, x1] h30) fun v31 h32 =>
  bindVH (call false n_wal_Wal_Hold [v10, (V.int .i64 3)] h32) fun v33 h34 =>
  intK .and x0 (V.int .i64 7) fun v35 =>
  intK .add (V.int .i64 50) v35 fun v36 =>
  mkS 1 1 [(V.int .u8 0)] v36 v36 h34 fun v37 h38 =>
  cvBS v37 h38 fun v39 =>
  bindVH (call false n_wal_Wal_Use [v10, v39] h38) fun v40 h41 =>
  bindVH (call false n_wal_Wal_Free [v10, (V.int .i64 4)] h41) fun v42 h43 =>
  bindVH (call false n_wal_Wal_Free [v10, (V.int .i64 (-1))] h43) fun v44 h45 =>
  intK .add v36 (V.int .i64 12) fun v46 =>
  intK .leq v46 (V.int .i64 64) fun v47 =>
  bindVH (call false n_furlonglaw0_Num [v25] h45) fun v48 h49 =>
  intK .eql v48 (V.int .i64 0) fun v50 =>
  intK .leq v21 (V.int .i64 8192) fun v51 =>
  binV ee .eql t_bool v50 v51 h49 fun v52 =>
  gdP v52 true (some v21) fun v53 =>
  gdP v52 true (intK .leq v53 (V.int .i64 8192) fun v55 =>
  some v55) fun v54 =>
  gdP v52 true (some v54) fun v56 =>
  gdP v56 false (some v25) fun v57 =>
  gdE v56 false (bindVH (call false n_furlonglaw0_Num [v57] h49) fun v60 h61 =>
  some (v60, h61)) h49 fun v58 h59 =>
  gdP v56 false (intK .eql v58 (V.int .i64 1000) fun v63 =>
  some v63) fun v62 =>
  gdP v56 false (some v62) fun v64 =>
  gdP v64 true (some v27) fun v65 =>
  gdP v64 true (intK .eql v65 (V.int .i64 0) fun v67 =>
  some v67) fun v66 =>
  gdP v56 false (pkK v64 v66 (V.bool false) fun v69 =>
  some v69) fun v68 =>
  gdP v52 true (pkK v56 (V.bool true) v68 fun v71 =>
  some v71) fun v70 =>
  pkK v52 v70 (V.bool false) fun v72 =>
  gdP v72 true (some v29) fun v73 =>
  gdE v72 true (bindVH (call false n_furlonglaw0_Num [v73] h59) fun v76 h77 =>
  some (v76, h77)) h59 fun v74 h75 =>
  gdP v72 true (intK .eql v74 (V.int .i64 1000) fun v79 =>
  some v79) fun v78 =>
  pkK v72 v78 (V.bool false) fun v80 =>
  gdP v80 true (some v31) fun v81 =>
  gdE v80 true (bindVH (call false n_furlonglaw0_Num [v81] h75) fun v84 h85 =>
  some (v84, h85)) h75 fun v82 h83 =>
  gdP v80 true (intK .eql v82 (V.int .i64 0) fun v87 =>
  some v87) fun v86 =>
  gdP v80 true (some x1) fun v88 =>
  gdP v80 true (intK .eql v88 (V.int .i64 0) fun v90 =>
  some v90) fun v89 =>
  gdP v80 true (binV ee .eql t_bool v86 v89 h83 fun v92 =>
  some v92) fun v91 =>
  pkK v80 v91 (V.bool false) fun v93 =>
  gdP v93 true (some v33) fun v94 =>
  pkK v93 v94 (V.bool false) fun v95 =>
  gdP v95 true (some v40) fun v96 =>
  gdE v95 true (bindVH (call false n_furlonglaw0_Num [v96] h83) fun v99 h100 =>
  some (v99, h100)) h83 fun v97 h98 =>
  gdP v95 true (intK .eql v97 (V.int .i64 0) fun v102 =>
  some v102) fun v101 =>
  gdP v95 true (some v47) fun v103 =>
  gdP v95 true (binV ee .eql t_bool v101 v103 h98 fun v105 =>
  some v105) fun v104 =>
  pkK v95 v104 (V.bool false) fun v106 =>
  gdP v106 true (some v47) fun v107 =>
  gdP v106 true (some v107) fun v108 =>
  gdP v108 false (some v40) fun v109 =>
  gdE v108 false (bindVH (call false n_furlonglaw0_Num [v109] h98) fun v112 h113 =>
  some (v112, h113)) h98 fun v110 h111 =>
  gdP v108 false (intK .eql v110 (V.int .i64 1000) fun v115 =>
  some v115) fun v114 =>
  gdP v106 true (pkK v108 (V.bool true) v114 fun v117 =>
  some v117) fun v116 =>
  pkK v106 v116 (V.bool false) fun v118 =>
  gdP v118 true (some v42) fun v119 =>
  gdE v118 true (bindVH (call false n_furlonglaw0_Num [v119] h111) fun v122 h123 =>
  some (v122, h123)) h111 fun v120 h121 =>
  gdP v118 true (intK .eql v120 (V.int .i64 1000) fun v125 =>
  some v125) fun v124 =>
  pkK v118 v124 (V.bool false) fun v126 =>
  gdP v126 true (some v44) fun v127 =>
  gdE v126 true (bindVH (call false n_furlonglaw0_Num [v127] h121) fun v130 h131 =>
  some (v130, h131)) h121 fun v128 h129 =>
  gdP v126 true (intK .eql v128 (V.int .i64 1000) fun v133 =>
  some v133) fun v132 =>
  pkK v126 v132 (V.bool false) fun v134 =>
  some (tupV [v134], h129)))
theorem furlonglaw10_WalForms_run {lf k : Nat} {x0 x1 : V} {h : Heap} {r : V × Heap} (hr : furlonglaw10_WalForms lf (run ee lf k) x0 x1 h = some r) : run ee lf (k + 1) false n_furlonglaw10_WalForms [x0, x1] h = some r :=
  run_of rfl Go.Proofs.Try.func5 (c := Code.ofFunc Go.Proofs.Try.f5) (by kernel_rfl) (by kernel_rfl) ((by kernel_rfl : kCode ee (run ee lf k) (Go.Proofs.Try.f5).ntmps lf (Code.ofFunc Go.Proofs.Try.f5) (kRet ee (Go.Proofs.Try.f5).results.toList) (argF [x0, x1]) h = furlonglaw10_WalForms lf (run ee lf k) x0 x1 h).trans hr)

/-! furlong/disk.New -/
noncomputable def disk_New (lf : Nat) (call : CallF) (x0 : V) (h : Heap) : Option (V × Heap) :=
  intK .lss x0 (V.int .i64 1) fun v1 =>
  gdP v1 false (some x0) fun v2 =>
  gdP v1 false (intK .gtr v2 (V.int .i64 1024) fun v4 =>
  some v4) fun v3 =>
  pkK v1 (V.bool true) v3 fun v5 =>
  cndV v5 (some (tupV [(V.ptr none), (V.int .i64 800)], h)) (mkS 1 1 [(V.int .u8 0)] (V.int .i64 64) (V.int .i64 64) h fun v6 h7 =>
  cvBS v6 h7 fun v8 =>
  fil1 0 v8 [(V.str [])] fun c9 =>
  newS 1 1 c9 h7 fun v11 h10 =>
  bindVH (call false n_slices_Repeat_string_string [v11, x0] h10) fun v12 h13 =>
  newM h13 fun v14 h15 =>
  fil1 0 v12 [(V.sl none 0 0 0 true), (V.map none), (V.int .i64 0)] fun c16 =>
  fil1 1 v14 c16 fun c17 =>
  boxA (V.agg c17) h15 fun v18 h19 =>
  some (tupV [v18, (V.int .i64 0)], h19))
theorem disk_New_run {lf k : Nat} {x0 : V} {h : Heap} {r : V × Heap} (hr : disk_New lf (run ee lf k) x0 h = some r) : run ee lf (k + 1) false n_disk_New [x0] h = some r :=
  run_of rfl Go.Proofs.Try.func8 (c := Code.ofFunc Go.Proofs.Try.f8) (by kernel_rfl) (by kernel_rfl) ((by kernel_rfl : kCode ee (run ee lf k) (Go.Proofs.Try.f8).ntmps lf (Code.ofFunc Go.Proofs.Try.f8) (kRet ee (Go.Proofs.Try.f8).results.toList) (argF [x0]) h = disk_New lf (run ee lf k) x0 h).trans hr)

/-! furlong/wal.Open -/
noncomputable def wal_Open_l1 {R : Type} (lf : Nat) (call : CallF) (K : Out → Fs → Heap → Option R) (f : Fs) (h : Heap) : Option R :=
  nilV (f 5) fun v5 =>
  faK 2 v5 fun v6 =>
  ld1 v6 h fun v7 =>
  bindVH (call false n_wal_rest [(f 0), v7] h) fun v8 h9 =>
  nilV (f 5) fun v10 =>
  faK 1 v10 fun v11 =>
  ld1 v11 h9 fun v12 =>
  bindVH (call false n_frame_Get [v8, v12] h9) fun v13 h14 =>
  exK 0 v13 fun v15 =>
  exK 1 v13 fun v16 =>
  exK 2 v13 fun v17 =>
  bif ((sameO (ld1 v6 h fun v21 =>
  some v21) v7 && true) && ((sameO (ld1 v11 h fun v22 =>
  some v22) v12 && (sameO (ld1 v11 h9 fun v23 =>
  some v23) v12 && true)) && true)) then unK .not v17 fun v24 =>
  cndV v24 (K (.exit 0) (updL 56 f [(16, (f 0)), (17, (f 5)), (18, v5), (19, v6), (20, v7), (21, v8), (22, (f 5)), (23, v10), (24, v11), (25, v12), (26, v13), (15, v13), (27, v15), (28, v16), (29, v17), (7, v15), (8, v16), (9, v17), (30, v17), (31, v24)]) h14) (fil1 0 v15 [(V.str [])] fun c25 =>
  newS 1 1 c25 h14 fun v27 h26 =>
  appL 1 (f 6) v27 h26 fun v28 h29 =>
  nilV (f 5) fun v30 =>
  faK 2 v30 fun v31 =>
  ld1 v31 h29 fun v32 =>
  intK .quo v16 (V.int .i64 64) fun v33 =>
  intK .add v32 v33 fun v34 =>
  nilV (f 5) fun v35 =>
  faK 2 v35 fun v36 =>
  st1 v36 v34 h29 fun h37 =>
  nilV (f 5) fun v38 =>
  faK 1 v38 fun v39 =>
  ld1 v39 h37 fun v40 =>
  intK .add v40 (V.int .i64 1) fun v41 =>
  nilV (f 5) fun v42 =>
  faK 1 v42 fun v43 =>
  st1 v43 v41 h37 fun h44 =>
  K .normal (updL 56 f [(16, (f 0)), (17, (f 5)), (18, v5), (19, v6), (20, v7), (21, v8), (22, (f 5)), (23, v10), (24, v11), (25, v12), (26, v13), (15, v13), (27, v15), (28, v16), (29, v17), (7, v15), (8, v16), (9, v17), (30, v17), (31, v24), (32, (f 6)), (33, v15), (34, v27), (35, v28), (6, v28), (36, (f 5)), (37, v30), (38, v31), (39, v32), (40, v16), (41, v33), (42, v34), (43, v35), (44, v36), (45, (f 5)), (46, v38), (47, v39), (48, v40), (49, v41), (50, v42), (51, v43)]) h44) else none
noncomputable def wal_Open_j1 (lf : Nat) (call : CallF) (f : Fs) (y5 : V) (y6 : V) (h : Heap) : Option (V × Heap) :=
  bindVH (call false n_wal_Wal_clean [y5] h) fun v45 h46 =>
  some (tupV [y5, y6, (V.int .i64 0)], h46)
noncomputable def wal_Open (lf : Nat) (call : CallF) (x0 : V) (h : Heap) : Option (V × Heap) :=
  refK false (eqPtr 3 x0 (V.ptr none) h) fun v1 =>
  cndV v1 (some (tupV [(V.ptr none), (V.sl none 0 0 0 true), (V.int .i64 1)], h)) (fil1 0 x0 [(V.ptr none), (V.int .i64 0), (V.int .i64 0), (V.int .i64 0)] fun c2 =>
  boxA (V.agg c2) h fun v3 h4 =>
  iterK true (wal_Open_l1 lf call) (fun o f h => blkK 0 o (wal_Open_j1 lf call f (f 5) (f 6) h) (seqK o (wal_Open_j1 lf call f (f 5) (f 6) h) (kRet ee [.tmp 2, .tmp 3, .tmp 4] o f h))) lf (updL 56 (argF [x0]) [(2, (V.ptr none)), (3, (V.sl none 0 0 0 true)), (4, (V.int .i64 0)), (10, x0), (11, v1), (12, x0), (13, (V.agg c2)), (14, v3), (5, v3), (6, (V.sl none 0 0 0 true))]) h4)
theorem wal_Open_run {lf k : Nat} {x0 : V} {h : Heap} {r : V × Heap} (hr : wal_Open lf (run ee lf k) x0 h = some r) : run ee lf (k + 1) false n_wal_Open [x0] h = some r :=
  run_of rfl Go.Proofs.Try.func9 (c := Code.ofFunc Go.Proofs.Try.f9) (by kernel_rfl) (by kernel_rfl) ((by kernel_rfl : kCode ee (run ee lf k) (Go.Proofs.Try.f9).ntmps lf (Code.ofFunc Go.Proofs.Try.f9) (kRet ee (Go.Proofs.Try.f9).results.toList) (argF [x0]) h = wal_Open lf (run ee lf k) x0 h).trans hr)

/-! furlong/furlonglaw0.Num -/
noncomputable def furlonglaw0_Num (lf : Nat) (call : CallF) (x0 : V) (h : Heap) : Option (V × Heap) :=
  some (tupV [x0], h)
theorem furlonglaw0_Num_run {lf k : Nat} {x0 : V} {h : Heap} {r : V × Heap} (hr : furlonglaw0_Num lf (run ee lf k) x0 h = some r) : run ee lf (k + 1) false n_furlonglaw0_Num [x0] h = some r :=
  run_of rfl Go.Proofs.Try.func10 (c := Code.ofFunc Go.Proofs.Try.f10) (by kernel_rfl) (by kernel_rfl) ((by kernel_rfl : kCode ee (run ee lf k) (Go.Proofs.Try.f10).ntmps lf (Code.ofFunc Go.Proofs.Try.f10) (kRet ee (Go.Proofs.Try.f10).results.toList) (argF [x0]) h = furlonglaw0_Num lf (run ee lf k) x0 h).trans hr)

/-! (*furlong/wal.Wal).Hold -/
noncomputable def wal_Wal_Hold (lf : Nat) (call : CallF) (x0 x1 : V) (h : Heap) : Option (V × Heap) :=
  refK false (eqPtr 4 x0 (V.ptr none) h) fun v1 =>
  gdP v1 false (some x1) fun v2 =>
  gdP v1 false (intK .lss v2 (V.int .i64 0) fun v4 =>
  some v4) fun v3 =>
  pkK v1 (V.bool true) v3 fun v5 =>
  gdP v5 false (some x1) fun v6 =>
  gdP v5 false (some x0) fun v7 =>
  gdE v5 false (bindVH (call false n_wal_Wal_Room [v7] h) fun v10 h11 =>
  some (v10, h11)) h fun v8 h9 =>
  gdP v5 false (intK .gtr v6 v8 fun v13 =>
  some v13) fun v12 =>
  pkK v5 (V.bool true) v12 fun v14 =>
  cndV v14 (some (tupV [(V.bool false)], h9)) (nilV x0 fun v15 =>
  faK 3 v15 fun v16 =>
  bindVH (call false n_sync_atomic_Int64_Add [v16, x1] h9) fun v17 h18 =>
  some (tupV [(V.bool true)], h18))
theorem wal_Wal_Hold_run {lf k : Nat} {x0 x1 : V} {h : Heap} {r : V × Heap} (hr : wal_Wal_Hold lf (run ee lf k) x0 x1 h = some r) : run ee lf (k + 1) false n_wal_Wal_Hold [x0, x1] h = some r :=
  run_of rfl Go.Proofs.Try.func11 (c := Code.ofFunc Go.Proofs.Try.f11) (by kernel_rfl) (by kernel_rfl) ((by kernel_rfl : kCode ee (run ee lf k) (Go.Proofs.Try.f11).ntmps lf (Code.ofFunc Go.Proofs.Try.f11) (kRet ee (Go.Proofs.Try.f11).results.toList) (argF [x0, x1]) h = wal_Wal_Hold lf (run ee lf k) x0 x1 h).trans hr)

/-! (*furlong/wal.Wal).Room -/
noncomputable def wal_Wal_Room (lf : Nat) (call : CallF) (x0 : V) (h : Heap) : Option (V × Heap) :=
  refK false (eqPtr 4 x0 (V.ptr none) h) fun v1 =>
  cndV v1 (some (tupV [(V.int .i64 0)], h)) (nilV x0 fun v2 =>
  faK 0 v2 fun v3 =>
  ld1 v3 h fun v4 =>
  bindVH (call false n_disk_Disk_Sectors [v4] h) fun v5 h6 =>
  nilV x0 fun v7 =>
  faK 2 v7 fun v8 =>
  ld1 v8 h6 fun v9 =>
  intK .sub v5 v9 fun v10 =>
  nilV x0 fun v11 =>
  faK 3 v11 fun v12 =>
  bindVH (call false n_sync_atomic_Int64_Load [v12] h6) fun v13 h14 =>
  intK .sub v10 v13 fun v15 =>
  bif ((sameO (ld1 v3 h fun v23 =>
  some v23) v4 && true) && ((sameO (ld1 v8 h fun v24 =>
  some v24) v9 && (sameO (ld1 v8 h6 fun v25 =>
  some v25) v9 && (sameO (ld1 v8 h14 fun v26 =>
  some v26) v9 && true))) && ((sameO (intK .sub v5 v9 fun v27 =>
  some v27) v10 && (sameO (intK .sub v5 v9 fun v28 =>
  some v28) v10 && true)) && ((sameO (intK .sub v10 v13 fun v29 =>
  some v29) v15 && true) && true)))) then some (tupV [v15], h14) else none)
theorem wal_Wal_Room_run {lf k : Nat} {x0 : V} {h : Heap} {r : V × Heap} (hr : wal_Wal_Room lf (run ee lf k) x0 h = some r) : run ee lf (k + 1) false n_wal_Wal_Room [x0] h = some r :=
  run_of rfl Go.Proofs.Try.func12 (c := Code.ofFunc Go.Proofs.Try.f12) (by kernel_rfl) (by kernel_rfl) ((by kernel_rfl : kCode ee (run ee lf k) (Go.Proofs.Try.f12).ntmps lf (Code.ofFunc Go.Proofs.Try.f12) (kRet ee (Go.Proofs.Try.f12).results.toList) (argF [x0]) h = wal_Wal_Room lf (run ee lf k) x0 h).trans hr)

/-! (*furlong/wal.Wal).Append -/
noncomputable def wal_Wal_Append (lf : Nat) (call : CallF) (x0 x1 : V) (h : Heap) : Option (V × Heap) :=
  refK false (eqPtr 4 x0 (V.ptr none) h) fun v1 =>
  cndV v1 (some (tupV [(V.int .i64 1)], h)) (lenS x1 fun v2 =>
  intK .gtr v2 (V.int .i64 8192) fun v3 =>
  cndV v3 (some (tupV [(V.int .i64 1000)], h)) (lenS x1 fun v4 =>
  bindVH (call false n_frame_Sectors [v4] h) fun v5 h6 =>
  bindVH (call false n_wal_Wal_Room [x0] h6) fun v7 h8 =>
  intK .gtr v5 v7 fun v9 =>
  cndV v9 (some (tupV [(V.int .i64 1001)], h8)) (bindVH (call false n_wal_Wal_write [x0, x1] h8) fun v10 h11 =>
  some (tupV [(V.int .i64 0)], h11))))
theorem wal_Wal_Append_run {lf k : Nat} {x0 x1 : V} {h : Heap} {r : V × Heap} (hr : wal_Wal_Append lf (run ee lf k) x0 x1 h = some r) : run ee lf (k + 1) false n_wal_Wal_Append [x0, x1] h = some r :=
  run_of rfl Go.Proofs.Try.func13 (c := Code.ofFunc Go.Proofs.Try.f13) (by kernel_rfl) (by kernel_rfl) ((by kernel_rfl : kCode ee (run ee lf k) (Go.Proofs.Try.f13).ntmps lf (Code.ofFunc Go.Proofs.Try.f13) (kRet ee (Go.Proofs.Try.f13).results.toList) (argF [x0, x1]) h = wal_Wal_Append lf (run ee lf k) x0 x1 h).trans hr)

/-! (*furlong/wal.Wal).Use -/
noncomputable def wal_Wal_Use (lf : Nat) (call : CallF) (x0 x1 : V) (h : Heap) : Option (V × Heap) :=
  refK false (eqPtr 4 x0 (V.ptr none) h) fun v1 =>
  cndV v1 (some (tupV [(V.int .i64 1)], h)) (lenS x1 fun v2 =>
  bindVH (call false n_frame_Sectors [v2] h) fun v3 h4 =>
  intK .neq v3 (V.int .i64 1) fun v5 =>
  gdP v5 false (some x0) fun v6 =>
  gdP v5 false (nilV v6 fun v8 =>
  some v8) fun v7 =>
  gdP v5 false (faK 3 v7 fun v10 =>
  some v10) fun v9 =>
  gdE v5 false (bindVH (call false n_sync_atomic_Int64_Load [v9] h4) fun v13 h14 =>
  some (v13, h14)) h4 fun v11 h12 =>
  gdP v5 false (intK .eql v11 (V.int .i64 0) fun v16 =>
  some v16) fun v15 =>
  pkK v5 (V.bool true) v15 fun v17 =>
  cndV v17 (some (tupV [(V.int .i64 1000)], h12)) (nilV x0 fun v18 =>
  faK 3 v18 fun v19 =>
  bindVH (call false n_sync_atomic_Int64_Add [v19, (V.int .i64 (-1))] h12) fun v20 h21 =>
  bindVH (call false n_wal_Wal_write [x0, x1] h21) fun v22 h23 =>
  some (tupV [(V.int .i64 0)], h23)))
theorem wal_Wal_Use_run {lf k : Nat} {x0 x1 : V} {h : Heap} {r : V × Heap} (hr : wal_Wal_Use lf (run ee lf k) x0 x1 h = some r) : run ee lf (k + 1) false n_wal_Wal_Use [x0, x1] h = some r :=
  run_of rfl Go.Proofs.Try.func14 (c := Code.ofFunc Go.Proofs.Try.f14) (by kernel_rfl) (by kernel_rfl) ((by kernel_rfl : kCode ee (run ee lf k) (Go.Proofs.Try.f14).ntmps lf (Code.ofFunc Go.Proofs.Try.f14) (kRet ee (Go.Proofs.Try.f14).results.toList) (argF [x0, x1]) h = wal_Wal_Use lf (run ee lf k) x0 x1 h).trans hr)

/-! (*furlong/wal.Wal).Next -/
noncomputable def wal_Wal_Next (lf : Nat) (call : CallF) (x0 : V) (h : Heap) : Option (V × Heap) :=
  refK false (eqPtr 4 x0 (V.ptr none) h) fun v1 =>
  cndV v1 (some (tupV [(V.int .i64 0)], h)) (nilV x0 fun v2 =>
  faK 1 v2 fun v3 =>
  ld1 v3 h fun v4 =>
  some (tupV [v4], h))
theorem wal_Wal_Next_run {lf k : Nat} {x0 : V} {h : Heap} {r : V × Heap} (hr : wal_Wal_Next lf (run ee lf k) x0 h = some r) : run ee lf (k + 1) false n_wal_Wal_Next [x0] h = some r :=
  run_of rfl Go.Proofs.Try.func15 (c := Code.ofFunc Go.Proofs.Try.f15) (by kernel_rfl) (by kernel_rfl) ((by kernel_rfl : kCode ee (run ee lf k) (Go.Proofs.Try.f15).ntmps lf (Code.ofFunc Go.Proofs.Try.f15) (kRet ee (Go.Proofs.Try.f15).results.toList) (argF [x0]) h = wal_Wal_Next lf (run ee lf k) x0 h).trans hr)

/-! furlong/furlonglaw0.SameTexts -/
noncomputable def furlonglaw0_SameTexts_l1 {R : Type} (lf : Nat) (call : CallF) (K : Out → Fs → Heap → Option R) (f : Fs) (h : Heap) : Option R :=
  lenL (f 0) fun v4 =>
  intK .lss (f 5) v4 fun v5 =>
  cndV v5 (iaS 1 (f 0) (f 5) fun v6 =>
  ld1 v6 h fun v7 =>
  iaS 1 (f 1) (f 5) fun v8 =>
  ld1 v8 h fun v9 =>
  strK .neq v7 v9 fun v10 =>
  cndV v10 (K .ret (updL 26 f [(11, (f 5)), (12, (f 0)), (13, v4), (14, v5), (17, (f 0)), (18, (f 5)), (19, v6), (20, v7), (21, (f 1)), (22, (f 5)), (23, v8), (24, v9), (25, v10), (4, (V.bool false))]) h) (intK .add (f 5) (V.int .i64 1) fun v11 =>
  K .normal (updL 26 f [(11, (f 5)), (12, (f 0)), (13, v4), (14, v5), (17, (f 0)), (18, (f 5)), (19, v6), (20, v7), (21, (f 1)), (22, (f 5)), (23, v8), (24, v9), (25, v10), (15, (f 5)), (16, v11), (5, v11)]) h)) (K (.exit 0) (updL 26 f [(11, (f 5)), (12, (f 0)), (13, v4), (14, v5)]) h)
noncomputable def furlonglaw0_SameTexts_j1 (lf : Nat) (call : CallF) (f : Fs) (h : Heap) : Option (V × Heap) :=
  some (tupV [(V.bool true)], h)
noncomputable def furlonglaw0_SameTexts (lf : Nat) (call : CallF) (x0 x1 : V) (h : Heap) : Option (V × Heap) :=
  lenL x0 fun v1 =>
  lenL x1 fun v2 =>
  intK .neq v1 v2 fun v3 =>
  cndV v3 (some (tupV [(V.bool false)], h)) (iterK true (furlonglaw0_SameTexts_l1 lf call) (fun o f h => blkK 0 o (some (tupV [(V.bool true)], h)) (seqK o (furlonglaw0_SameTexts_j1 lf call f h) (kRet ee [.tmp 4] o f h))) lf (updL 26 (argF [x0, x1]) [(4, (V.bool false)), (6, x0), (7, v1), (8, x1), (9, v2), (10, v3), (5, (V.int .i64 0))]) h)
theorem furlonglaw0_SameTexts_run {lf k : Nat} {x0 x1 : V} {h : Heap} {r : V × Heap} (hr : furlonglaw0_SameTexts lf (run ee lf k) x0 x1 h = some r) : run ee lf (k + 1) false n_furlonglaw0_SameTexts [x0, x1] h = some r :=
  run_of rfl Go.Proofs.Try.func16 (c := Code.ofFunc Go.Proofs.Try.f16) (by kernel_rfl) (by kernel_rfl) ((by kernel_rfl : kCode ee (run ee lf k) (Go.Proofs.Try.f16).ntmps lf (Code.ofFunc Go.Proofs.Try.f16) (kRet ee (Go.Proofs.Try.f16).results.toList) (argF [x0, x1]) h = furlonglaw0_SameTexts lf (run ee lf k) x0 x1 h).trans hr)

/-! (*furlong/wal.Wal).Free -/
noncomputable def wal_Wal_Free (lf : Nat) (call : CallF) (x0 x1 : V) (h : Heap) : Option (V × Heap) :=
  refK false (eqPtr 4 x0 (V.ptr none) h) fun v1 =>
  cndV v1 (some (tupV [(V.int .i64 1)], h)) (intK .lss x1 (V.int .i64 0) fun v2 =>
  gdP v2 false (some x1) fun v3 =>
  gdP v2 false (some x0) fun v4 =>
  gdP v2 false (nilV v4 fun v6 =>
  some v6) fun v5 =>
  gdP v2 false (faK 3 v5 fun v8 =>
  some v8) fun v7 =>
  gdE v2 false (bindVH (call false n_sync_atomic_Int64_Load [v7] h) fun v11 h12 =>
  some (v11, h12)) h fun v9 h10 =>
  gdP v2 false (intK .gtr v3 v9 fun v14 =>
  some v14) fun v13 =>
  pkK v2 (V.bool true) v13 fun v15 =>
  cndV v15 (some (tupV [(V.int .i64 1000)], h10)) (nilV x0 fun v16 =>
  faK 3 v16 fun v17 =>
  unK .neg x1 fun v18 =>
  bindVH (call false n_sync_atomic_Int64_Add [v17, v18] h10) fun v19 h20 =>
  some (tupV [(V.int .i64 0)], h20)))
theorem wal_Wal_Free_run {lf k : Nat} {x0 x1 : V} {h : Heap} {r : V × Heap} (hr : wal_Wal_Free lf (run ee lf k) x0 x1 h = some r) : run ee lf (k + 1) false n_wal_Wal_Free [x0, x1] h = some r :=
  run_of rfl Go.Proofs.Try.func17 (c := Code.ofFunc Go.Proofs.Try.f17) (by kernel_rfl) (by kernel_rfl) ((by kernel_rfl : kCode ee (run ee lf k) (Go.Proofs.Try.f17).ntmps lf (Code.ofFunc Go.Proofs.Try.f17) (kRet ee (Go.Proofs.Try.f17).results.toList) (argF [x0, x1]) h = wal_Wal_Free lf (run ee lf k) x0 x1 h).trans hr)

/-! (*furlong/disk.Disk).Read -/
noncomputable def disk_Disk_Read (lf : Nat) (call : CallF) (x0 x1 : V) (h : Heap) : Option (V × Heap) :=
  refK false (eqPtr 3 x0 (V.ptr none) h) fun v1 =>
  cndV v1 (some (tupV [(V.str []), (V.int .i64 1)], h)) (intK .lss x1 (V.int .i64 0) fun v2 =>
  gdP v2 false (some x1) fun v3 =>
  gdP v2 false (some x0) fun v4 =>
  gdP v2 false (nilV v4 fun v6 =>
  some v6) fun v5 =>
  gdP v2 false (faK 0 v5 fun v8 =>
  some v8) fun v7 =>
  gdP v2 false (ld1 v7 h fun v10 =>
  some v10) fun v9 =>
  gdP v2 false (lenL v9 fun v12 =>
  some v12) fun v11 =>
  gdP v2 false (intK .geq v3 v11 fun v14 =>
  some v14) fun v13 =>
  pkK v2 (V.bool true) v13 fun v15 =>
  cndV v15 (some (tupV [(V.str []), (V.int .i64 800)], h)) (nilV x0 fun v16 =>
  faK 1 v16 fun v17 =>
  ld1 v17 h fun v18 =>
  (dLookup ee t_map_int_string v18 x1 true h).bind fun v19 =>
  exK 0 v19 fun v20 =>
  exK 1 v19 fun v21 =>
  cndV v21 (some (tupV [v20, (V.int .i64 0)], h)) (nilV x0 fun v22 =>
  faK 0 v22 fun v23 =>
  ld1 v23 h fun v24 =>
  iaS 1 v24 x1 fun v25 =>
  ld1 v25 h fun v26 =>
  some (tupV [v26, (V.int .i64 0)], h))))
theorem disk_Disk_Read_run {lf k : Nat} {x0 x1 : V} {h : Heap} {r : V × Heap} (hr : disk_Disk_Read lf (run ee lf k) x0 x1 h = some r) : run ee lf (k + 1) false n_disk_Disk_Read [x0, x1] h = some r :=
  run_of rfl Go.Proofs.Try.func25 (c := Code.ofFunc Go.Proofs.Try.f25) (by kernel_rfl) (by kernel_rfl) ((by kernel_rfl : kCode ee (run ee lf k) (Go.Proofs.Try.f25).ntmps lf (Code.ofFunc Go.Proofs.Try.f25) (kRet ee (Go.Proofs.Try.f25).results.toList) (argF [x0, x1]) h = disk_Disk_Read lf (run ee lf k) x0 x1 h).trans hr)

/-! (*furlong/wal.Wal).Force -/
noncomputable def wal_Wal_Force (lf : Nat) (call : CallF) (x0 : V) (h : Heap) : Option (V × Heap) :=
  refK false (eqPtr 4 x0 (V.ptr none) h) fun v1 =>
  cndV v1 (some (tupV [(V.int .i64 1)], h)) (nilV x0 fun v2 =>
  faK 0 v2 fun v3 =>
  ld1 v3 h fun v4 =>
  bindVH (call false n_disk_Disk_Sync [v4] h) fun v5 h6 =>
  some (tupV [v5], h6))
theorem wal_Wal_Force_run {lf k : Nat} {x0 : V} {h : Heap} {r : V × Heap} (hr : wal_Wal_Force lf (run ee lf k) x0 h = some r) : run ee lf (k + 1) false n_wal_Wal_Force [x0] h = some r :=
  run_of rfl Go.Proofs.Try.func27 (c := Code.ofFunc Go.Proofs.Try.f27) (by kernel_rfl) (by kernel_rfl) ((by kernel_rfl : kCode ee (run ee lf k) (Go.Proofs.Try.f27).ntmps lf (Code.ofFunc Go.Proofs.Try.f27) (kRet ee (Go.Proofs.Try.f27).results.toList) (argF [x0]) h = wal_Wal_Force lf (run ee lf k) x0 h).trans hr)

/-! slices.Repeat[[]string,string] -/
noncomputable def slices_Repeat_string_string_l1 {R : Type} (lf : Nat) (call : CallF) (K : Out → Fs → Heap → Option R) (f : Fs) (h : Heap) : Option R :=
  lenL (f 7) fun v19 =>
  intK .lss (f 8) v19 fun v20 =>
  cndV v20 (slL 1 (f 7) (some (f 8)) none fun v21 =>
  slL 1 (f 7) none (some (f 8)) fun v22 =>
  bindVH (dBuiltin ee .copy #[t_s_string, t_s_string] [v21, v22] h) fun v23 h24 =>
  intK .add (f 8) v23 fun v25 =>
  bif ((sameO (slL 1 (f 7) (some (f 8)) none fun v29 =>
  some v29) v21 && true) && ((sameO (slL 1 (f 7) none (some (f 8)) fun v30 =>
  some v30) v22 && true) && ((sameO (intK .add (f 8) v23 fun v31 =>
  some v31) v25 && true) && true))) then K .normal (updL 48 f [(34, (f 8)), (35, (f 7)), (36, v19), (37, v20), (38, (f 8)), (39, (f 7)), (40, (f 8)), (41, v21), (42, (f 7)), (43, (f 8)), (44, v22), (45, v23), (46, v25), (8, v25)]) h24 else none) (K (.exit 0) (updL 48 f [(34, (f 8)), (35, (f 7)), (36, v19), (37, v20)]) h)
noncomputable def slices_Repeat_string_string_j3 (lf : Nat) (call : CallF) (f : Fs) (y7 : V) (h : Heap) : Option (V × Heap) :=
  some (tupV [y7], h)
noncomputable def slices_Repeat_string_string_j2 (lf : Nat) (call : CallF) (f : Fs) (y0 : V) (y6 : V) (h : Heap) : Option (V × Heap) :=
  cvI .i64 y6 fun v14 =>
  mkS 16 1 [(V.str [])] v14 v14 h fun v15 h16 =>
  bindVH (dBuiltin ee .copy #[t_s_string, t_s_string] [v15, y0] h16) fun v17 h18 =>
  iterK true (slices_Repeat_string_string_l1 lf call) (fun o f h => blkK 0 o (slices_Repeat_string_string_j3 lf call f (f 7) h) (seqK o (slices_Repeat_string_string_j3 lf call f (f 7) h) (kRet ee [.tmp 4] o f h))) lf (updL 48 f [(28, y6), (29, v14), (30, v15), (7, v15), (31, v15), (32, y0), (33, v17), (8, v17)]) h18
noncomputable def slices_Repeat_string_string_j1 (lf : Nat) (call : CallF) (f : Fs) (y0 : V) (y1 : V) (h : Heap) : Option (V × Heap) :=
  lenL y0 fun v2 =>
  cvI .u64 v2 fun v3 =>
  cvI .u64 y1 fun v4 =>
  bindVH (call false n_math_bits_Mul [v3, v4] h) fun v5 h6 =>
  exK 0 v5 fun v7 =>
  exK 1 v5 fun v8 =>
  intK .gtr v7 (V.int .u64 0) fun v9 =>
  gdP v9 false (some v8) fun v10 =>
  gdP v9 false (intK .gtr v10 (V.int .u64 9223372036854775807) fun v12 =>
  some v12) fun v11 =>
  pkK v9 (V.bool true) v11 fun v13 =>
  cndV v13 (none) (slices_Repeat_string_string_j2 lf call (updL 48 f [(13, y0), (14, v2), (15, v3), (16, y1), (17, v4), (18, v5), (12, v5), (19, v7), (20, v8), (5, v7), (6, v8), (21, v7), (22, v9), (23, v9), (24, v10), (25, v11), (26, v13)]) y0 v8 h6)
noncomputable def slices_Repeat_string_string (lf : Nat) (call : CallF) (x0 x1 : V) (h : Heap) : Option (V × Heap) :=
  intK .lss x1 (V.int .i64 0) fun v1 =>
  cndV v1 (none) (slices_Repeat_string_string_j1 lf call (updL 48 (argF [x0, x1]) [(4, (V.sl none 0 0 0 true)), (9, x1), (10, v1)]) x0 x1 h)
theorem slices_Repeat_string_string_run {lf k : Nat} {x0 x1 : V} {h : Heap} {r : V × Heap} (hr : slices_Repeat_string_string lf (run ee lf k) x0 x1 h = some r) : run ee lf (k + 1) false n_slices_Repeat_string_string [x0, x1] h = some r :=
  run_of rfl Go.Proofs.Try.func29 (c := Code.ofFunc Go.Proofs.Try.f29) (by kernel_rfl) (by kernel_rfl) ((by kernel_rfl : kCode ee (run ee lf k) (Go.Proofs.Try.f29).ntmps lf (Code.ofFunc Go.Proofs.Try.f29) (kRet ee (Go.Proofs.Try.f29).results.toList) (argF [x0, x1]) h = slices_Repeat_string_string lf (run ee lf k) x0 x1 h).trans hr)

/-! furlong/frame.Get -/
noncomputable def frame_Get (lf : Nat) (call : CallF) (x0 x1 : V) (h : Heap) : Option (V × Heap) :=
  lenS x0 fun v1 =>
  intK .lss v1 (V.int .i64 12) fun v2 =>
  cndV v2 (some (tupV [(V.str []), (V.int .i64 0), (V.bool false)], h)) (ixS x0 (V.int .i64 6) fun v3 =>
  cvI .i64 v3 fun v4 =>
  intK .shl v4 (V.int .u64 8) fun v5 =>
  intK .add (V.int .i64 6) (V.int .i64 1) fun v6 =>
  ixS x0 v6 fun v7 =>
  cvI .i64 v7 fun v8 =>
  intK .or v5 v8 fun v9 =>
  bindVH (call false n_frame_Sectors [v9] h) fun v10 h11 =>
  intK .mul v10 (V.int .i64 64) fun v12 =>
  intK .eql v12 (V.int .i64 0) fun v13 =>
  gdP v13 false (some v12) fun v14 =>
  gdP v13 false (some x0) fun v15 =>
  gdP v13 false (lenS v15 fun v17 =>
  some v17) fun v16 =>
  gdP v13 false (intK .gtr v14 v16 fun v19 =>
  some v19) fun v18 =>
  pkK v13 (V.bool true) v18 fun v20 =>
  cndV v20 (some (tupV [(V.str []), (V.int .i64 0), (V.bool false)], h11)) (intK .add (V.int .i64 12) v9 fun v21 =>
  slS x0 (some (V.int .i64 12)) (some v21) fun v22 =>
  bindVH (call false n_frame_Put [x1, v22] h11) fun v23 h24 =>
  exK 0 v23 fun v25 =>
  exK 1 v23 fun v26 =>
  intK .neq v26 (V.int .i64 0) fun v27 =>
  gdP v27 false (some v25) fun v28 =>
  gdP v27 false (some x0) fun v29 =>
  gdP v27 false (some v12) fun v30 =>
  gdP v27 false (slS v29 none (some v30) fun v32 =>
  some v32) fun v31 =>
  gdP v27 false (strK .neq v28 v31 fun v34 =>
  some v34) fun v33 =>
  pkK v27 (V.bool true) v33 fun v35 =>
  cndV v35 (some (tupV [(V.str []), (V.int .i64 0), (V.bool false)], h24)) (some (tupV [v22, v12, (V.bool true)], h24))))
theorem frame_Get_run {lf k : Nat} {x0 x1 : V} {h : Heap} {r : V × Heap} (hr : frame_Get lf (run ee lf k) x0 x1 h = some r) : run ee lf (k + 1) false n_frame_Get [x0, x1] h = some r :=
  run_of rfl Go.Proofs.Try.func30 (c := Code.ofFunc Go.Proofs.Try.f30) (by kernel_rfl) (by kernel_rfl) ((by kernel_rfl : kCode ee (run ee lf k) (Go.Proofs.Try.f30).ntmps lf (Code.ofFunc Go.Proofs.Try.f30) (kRet ee (Go.Proofs.Try.f30).results.toList) (argF [x0, x1]) h = frame_Get lf (run ee lf k) x0 x1 h).trans hr)

/-! furlong/wal.rest -/
noncomputable def wal_rest_l1 {R : Type} (lf : Nat) (call : CallF) (K : Out → Fs → Heap → Option R) (f : Fs) (h : Heap) : Option R :=
  intK .lss (f 10) (f 9) fun v3 =>
  cndV v3 (intK .add (f 1) (f 10) fun v4 =>
  bindVH (call false n_disk_Disk_Read [(f 0), v4] h) fun v5 h6 =>
  exK 0 v5 fun v7 =>
  exK 1 v5 fun v8 =>
  intK .neq v8 (V.int .i64 0) fun v9 =>
  cndV v9 (K (.exit 0) (updL 28 f [(11, v3), (12, (f 10)), (6, (f 10)), (14, (f 0)), (15, (f 1)), (16, (f 10)), (17, v4), (18, v5), (13, v5), (19, v7), (20, v8), (7, v7), (8, v8), (21, v8), (22, v9)]) h6) (strK .add (f 5) v7 fun v10 =>
  intK .add (f 10) (V.int .i64 1) fun v11 =>
  K .normal (updL 28 f [(11, v3), (12, (f 10)), (6, (f 10)), (14, (f 0)), (15, (f 1)), (16, (f 10)), (17, v4), (18, v5), (13, v5), (19, v7), (20, v8), (7, v7), (8, v8), (21, v8), (22, v9), (23, (f 5)), (24, v7), (25, v10), (5, v10), (26, v11), (10, v11)]) h6)) (K (.exit 0) (updL 28 f [(11, v3)]) h)
noncomputable def wal_rest_j1 (lf : Nat) (call : CallF) (f : Fs) (y5 : V) (h : Heap) : Option (V × Heap) :=
  some (tupV [y5], h)
noncomputable def wal_rest (lf : Nat) (call : CallF) (x0 x1 : V) (h : Heap) : Option (V × Heap) :=
  bindVH (call false n_frame_Sectors [(V.int .i64 8192)] h) fun v1 h2 =>
  iterK true (wal_rest_l1 lf call) (fun o f h => blkK 0 o (wal_rest_j1 lf call f (f 5) h) (seqK o (wal_rest_j1 lf call f (f 5) h) (kRet ee [.tmp 4] o f h))) lf (updL 28 (argF [x0, x1]) [(4, (V.str [])), (5, (V.str [])), (9, v1), (10, (V.int .i64 0))]) h2
theorem wal_rest_run {lf k : Nat} {x0 x1 : V} {h : Heap} {r : V × Heap} (hr : wal_rest lf (run ee lf k) x0 x1 h = some r) : run ee lf (k + 1) false n_wal_rest [x0, x1] h = some r :=
  run_of rfl Go.Proofs.Try.func31 (c := Code.ofFunc Go.Proofs.Try.f31) (by kernel_rfl) (by kernel_rfl) ((by kernel_rfl : kCode ee (run ee lf k) (Go.Proofs.Try.f31).ntmps lf (Code.ofFunc Go.Proofs.Try.f31) (kRet ee (Go.Proofs.Try.f31).results.toList) (argF [x0, x1]) h = wal_rest lf (run ee lf k) x0 x1 h).trans hr)

/-! (*furlong/wal.Wal).clean -/
noncomputable def wal_Wal_clean_j1 {R : Type} (lf : Nat) (call : CallF) (K : Out → Fs → Heap → Option R) (f : Fs) (y3 : V) (h : Heap) : Option R :=
  intK .add y3 (V.int .i64 1) fun v26 =>
  K .normal (updL 45 f [(19, y3), (20, v26), (3, v26)]) h
noncomputable def wal_Wal_clean_l1 {R : Type} (lf : Nat) (call : CallF) (K : Out → Fs → Heap → Option R) (f : Fs) (h : Heap) : Option R :=
  nilV (f 0) fun v7 =>
  faK 0 v7 fun v8 =>
  ld1 v8 h fun v9 =>
  bindVH (call false n_disk_Disk_Sectors [v9] h) fun v10 h11 =>
  intK .lss (f 3) v10 fun v12 =>
  cndV v12 (nilV (f 0) fun v13 =>
  faK 0 v13 fun v14 =>
  ld1 v14 h11 fun v15 =>
  bindVH (call false n_disk_Disk_Read [v15, (f 3)] h11) fun v16 h17 =>
  exK 0 v16 fun v18 =>
  exK 1 v16 fun v19 =>
  strK .neq v18 (f 2) fun v20 =>
  cndV v20 (nilV (f 0) fun v21 =>
  faK 0 v21 fun v22 =>
  ld1 v22 h17 fun v23 =>
  bindVH (call false n_disk_Disk_Write [v23, (f 3), (f 2)] h17) fun v24 h25 =>
  wal_Wal_clean_j1 lf call K (updL 45 f [(12, (f 3)), (13, (f 0)), (14, v7), (15, v8), (16, v9), (17, v10), (18, v12), (22, (f 0)), (23, v13), (24, v14), (25, v15), (26, (f 3)), (27, v16), (21, v16), (28, v18), (29, v19), (4, v18), (5, v19), (30, v18), (31, (f 2)), (32, v20), (33, (f 0)), (34, v21), (35, v22), (36, v23), (37, (f 3)), (38, (f 2)), (39, v24)]) (f 3) h25) (wal_Wal_clean_j1 lf call K (updL 45 f [(12, (f 3)), (13, (f 0)), (14, v7), (15, v8), (16, v9), (17, v10), (18, v12), (22, (f 0)), (23, v13), (24, v14), (25, v15), (26, (f 3)), (27, v16), (21, v16), (28, v18), (29, v19), (4, v18), (5, v19), (30, v18), (31, (f 2)), (32, v20)]) (f 3) h17)) (K (.exit 0) (updL 45 f [(12, (f 3)), (13, (f 0)), (14, v7), (15, v8), (16, v9), (17, v10), (18, v12)]) h11)
noncomputable def wal_Wal_clean_j2 (lf : Nat) (call : CallF) (f : Fs) (y0 : V) (h : Heap) : Option (V × Heap) :=
  nilV y0 fun v27 =>
  faK 0 v27 fun v28 =>
  ld1 v28 h fun v29 =>
  bindVH (call false n_disk_Disk_Sync [v29] h) fun v30 h31 =>
  some (tupV [], h31)
noncomputable def wal_Wal_clean (lf : Nat) (call : CallF) (x0 : V) (h : Heap) : Option (V × Heap) :=
  mkS 1 1 [(V.int .u8 0)] (V.int .i64 64) (V.int .i64 64) h fun v1 h2 =>
  cvBS v1 h2 fun v3 =>
  nilV x0 fun v4 =>
  faK 2 v4 fun v5 =>
  ld1 v5 h2 fun v6 =>
  iterK true (wal_Wal_clean_l1 lf call) (fun o f h => blkK 0 o (wal_Wal_clean_j2 lf call f (f 0) h) (seqK o (wal_Wal_clean_j2 lf call f (f 0) h) (kRet ee [] o f h))) lf (updL 45 (argF [x0]) [(6, v1), (7, v3), (2, v3), (8, x0), (9, v4), (10, v5), (11, v6), (3, v6)]) h2
theorem wal_Wal_clean_run {lf k : Nat} {x0 : V} {h : Heap} {r : V × Heap} (hr : wal_Wal_clean lf (run ee lf k) x0 h = some r) : run ee lf (k + 1) false n_wal_Wal_clean [x0] h = some r :=
  run_of rfl Go.Proofs.Try.func32 (c := Code.ofFunc Go.Proofs.Try.f32) (by kernel_rfl) (by kernel_rfl) ((by kernel_rfl : kCode ee (run ee lf k) (Go.Proofs.Try.f32).ntmps lf (Code.ofFunc Go.Proofs.Try.f32) (kRet ee (Go.Proofs.Try.f32).results.toList) (argF [x0]) h = wal_Wal_clean lf (run ee lf k) x0 h).trans hr)

/-! (*sync/atomic.Int64).Add -/
noncomputable def sync_atomic_Int64_Add (lf : Nat) (call : CallF) (x0 x1 : V) (h : Heap) : Option (V × Heap) :=
  nilV x0 fun v1 =>
  faK 0 v1 fun v2 =>
  bindVH (dExt .add [v2, x1] h) fun v3 h4 =>
  some (tupV [v3], h4)
theorem sync_atomic_Int64_Add_run {lf k : Nat} {x0 x1 : V} {h : Heap} {r : V × Heap} (hr : sync_atomic_Int64_Add lf (run ee lf k) x0 x1 h = some r) : run ee lf (k + 1) false n_sync_atomic_Int64_Add [x0, x1] h = some r :=
  run_of rfl Go.Proofs.Try.func33 (c := Code.ofFunc Go.Proofs.Try.f33) (by kernel_rfl) (by kernel_rfl) ((by kernel_rfl : kCode ee (run ee lf k) (Go.Proofs.Try.f33).ntmps lf (Code.ofFunc Go.Proofs.Try.f33) (kRet ee (Go.Proofs.Try.f33).results.toList) (argF [x0, x1]) h = sync_atomic_Int64_Add lf (run ee lf k) x0 x1 h).trans hr)

/-! (*furlong/disk.Disk).Sectors -/
noncomputable def disk_Disk_Sectors (lf : Nat) (call : CallF) (x0 : V) (h : Heap) : Option (V × Heap) :=
  refK false (eqPtr 3 x0 (V.ptr none) h) fun v1 =>
  cndV v1 (some (tupV [(V.int .i64 0)], h)) (nilV x0 fun v2 =>
  faK 0 v2 fun v3 =>
  ld1 v3 h fun v4 =>
  lenL v4 fun v5 =>
  some (tupV [v5], h))
theorem disk_Disk_Sectors_run {lf k : Nat} {x0 : V} {h : Heap} {r : V × Heap} (hr : disk_Disk_Sectors lf (run ee lf k) x0 h = some r) : run ee lf (k + 1) false n_disk_Disk_Sectors [x0] h = some r :=
  run_of rfl Go.Proofs.Try.func34 (c := Code.ofFunc Go.Proofs.Try.f34) (by kernel_rfl) (by kernel_rfl) ((by kernel_rfl : kCode ee (run ee lf k) (Go.Proofs.Try.f34).ntmps lf (Code.ofFunc Go.Proofs.Try.f34) (kRet ee (Go.Proofs.Try.f34).results.toList) (argF [x0]) h = disk_Disk_Sectors lf (run ee lf k) x0 h).trans hr)

/-! (*sync/atomic.Int64).Load -/
noncomputable def sync_atomic_Int64_Load (lf : Nat) (call : CallF) (x0 : V) (h : Heap) : Option (V × Heap) :=
  nilV x0 fun v1 =>
  faK 0 v1 fun v2 =>
  bindVH (dExt .load [v2] h) fun v3 h4 =>
  some (tupV [v3], h4)
theorem sync_atomic_Int64_Load_run {lf k : Nat} {x0 : V} {h : Heap} {r : V × Heap} (hr : sync_atomic_Int64_Load lf (run ee lf k) x0 h = some r) : run ee lf (k + 1) false n_sync_atomic_Int64_Load [x0] h = some r :=
  run_of rfl Go.Proofs.Try.func35 (c := Code.ofFunc Go.Proofs.Try.f35) (by kernel_rfl) (by kernel_rfl) ((by kernel_rfl : kCode ee (run ee lf k) (Go.Proofs.Try.f35).ntmps lf (Code.ofFunc Go.Proofs.Try.f35) (kRet ee (Go.Proofs.Try.f35).results.toList) (argF [x0]) h = sync_atomic_Int64_Load lf (run ee lf k) x0 h).trans hr)

/-! furlong/frame.Sectors -/
noncomputable def frame_Sectors (lf : Nat) (call : CallF) (x0 : V) (h : Heap) : Option (V × Heap) :=
  intK .lss x0 (V.int .i64 0) fun v1 =>
  gdP v1 false (some x0) fun v2 =>
  gdP v1 false (intK .gtr v2 (V.int .i64 8192) fun v4 =>
  some v4) fun v3 =>
  pkK v1 (V.bool true) v3 fun v5 =>
  cndV v5 (some (tupV [(V.int .i64 0)], h)) (intK .add (V.int .i64 12) x0 fun v6 =>
  intK .add v6 (V.int .i64 64) fun v7 =>
  intK .sub v7 (V.int .i64 1) fun v8 =>
  intK .quo v8 (V.int .i64 64) fun v9 =>
  some (tupV [v9], h))
theorem frame_Sectors_run {lf k : Nat} {x0 : V} {h : Heap} {r : V × Heap} (hr : frame_Sectors lf (run ee lf k) x0 h = some r) : run ee lf (k + 1) false n_frame_Sectors [x0] h = some r :=
  run_of rfl Go.Proofs.Try.func36 (c := Code.ofFunc Go.Proofs.Try.f36) (by kernel_rfl) (by kernel_rfl) ((by kernel_rfl : kCode ee (run ee lf k) (Go.Proofs.Try.f36).ntmps lf (Code.ofFunc Go.Proofs.Try.f36) (kRet ee (Go.Proofs.Try.f36).results.toList) (argF [x0]) h = frame_Sectors lf (run ee lf k) x0 h).trans hr)

/-! (*furlong/wal.Wal).write -/
noncomputable def wal_Wal_write_l1 {R : Type} (lf : Nat) (call : CallF) (K : Out → Fs → Heap → Option R) (f : Fs) (h : Heap) : Option R :=
  strK .neq (f 4) (V.str []) fun v8 =>
  cndV v8 (nilV (f 0) fun v9 =>
  faK 0 v9 fun v10 =>
  ld1 v10 h fun v11 =>
  nilV (f 0) fun v12 =>
  faK 2 v12 fun v13 =>
  ld1 v13 h fun v14 =>
  slS (f 4) none (some (V.int .i64 64)) fun v15 =>
  bindVH (call false n_disk_Disk_Write [v11, v14, v15] h) fun v16 h17 =>
  bif ((sameO (ld1 v10 h fun v21 =>
  some v21) v11 && true) && ((sameO (ld1 v13 h fun v22 =>
  some v22) v14 && true) && ((sameO (slS (f 4) none (some (V.int .i64 64)) fun v23 =>
  some v23) v15 && true) && true))) then nilV (f 0) fun v24 =>
  faK 2 v24 fun v25 =>
  ld1 v25 h17 fun v26 =>
  intK .add v26 (V.int .i64 1) fun v27 =>
  nilV (f 0) fun v28 =>
  faK 2 v28 fun v29 =>
  st1 v29 v27 h17 fun h30 =>
  slS (f 4) (some (V.int .i64 64)) none fun v31 =>
  K .normal (updL 44 f [(15, (f 4)), (16, v8), (19, (f 0)), (20, v9), (21, v10), (22, v11), (23, (f 0)), (24, v12), (25, v13), (26, v14), (27, (f 4)), (28, v15), (29, v16), (30, (f 0)), (31, v24), (32, v25), (33, v26), (34, v27), (35, v28), (36, v29), (17, (f 4)), (18, v31), (4, v31)]) h30 else none) (K (.exit 0) (updL 44 f [(15, (f 4)), (16, v8)]) h)
noncomputable def wal_Wal_write_j1 (lf : Nat) (call : CallF) (f : Fs) (y0 : V) (h : Heap) : Option (V × Heap) :=
  nilV y0 fun v32 =>
  faK 1 v32 fun v33 =>
  ld1 v33 h fun v34 =>
  intK .add v34 (V.int .i64 1) fun v35 =>
  nilV y0 fun v36 =>
  faK 1 v36 fun v37 =>
  st1 v37 v35 h fun h38 =>
  some (tupV [], h38)
noncomputable def wal_Wal_write (lf : Nat) (call : CallF) (x0 x1 : V) (h : Heap) : Option (V × Heap) :=
  nilV x0 fun v1 =>
  faK 1 v1 fun v2 =>
  ld1 v2 h fun v3 =>
  bindVH (call false n_frame_Put [v3, x1] h) fun v4 h5 =>
  exK 0 v4 fun v6 =>
  exK 1 v4 fun v7 =>
  iterK true (wal_Wal_write_l1 lf call) (fun o f h => blkK 0 o (wal_Wal_write_j1 lf call f (f 0) h) (seqK o (wal_Wal_write_j1 lf call f (f 0) h) (kRet ee [] o f h))) lf (updL 44 (argF [x0, x1]) [(7, x0), (8, v1), (9, v2), (10, v3), (11, x1), (12, v4), (6, v4), (13, v6), (14, v7), (4, v6), (5, v7)]) h5
theorem wal_Wal_write_run {lf k : Nat} {x0 x1 : V} {h : Heap} {r : V × Heap} (hr : wal_Wal_write lf (run ee lf k) x0 x1 h = some r) : run ee lf (k + 1) false n_wal_Wal_write [x0, x1] h = some r :=
  run_of rfl Go.Proofs.Try.func37 (c := Code.ofFunc Go.Proofs.Try.f37) (by kernel_rfl) (by kernel_rfl) ((by kernel_rfl : kCode ee (run ee lf k) (Go.Proofs.Try.f37).ntmps lf (Code.ofFunc Go.Proofs.Try.f37) (kRet ee (Go.Proofs.Try.f37).results.toList) (argF [x0, x1]) h = wal_Wal_write lf (run ee lf k) x0 x1 h).trans hr)

/-! (*furlong/disk.Disk).Write -/
noncomputable def disk_Disk_Write_j1 (lf : Nat) (call : CallF) (f : Fs) (y0 : V) (y1 : V) (y2 : V) (h : Heap) : Option (V × Heap) :=
  nilV y0 fun v33 =>
  faK 1 v33 fun v34 =>
  ld1 v34 h fun v35 =>
  (dMapUpdate ee t_map_int_string v35 y1 y2 h).bind fun h36 =>
  some (tupV [(V.int .i64 0)], h36)
noncomputable def disk_Disk_Write (lf : Nat) (call : CallF) (x0 x1 x2 : V) (h : Heap) : Option (V × Heap) :=
  refK false (eqPtr 3 x0 (V.ptr none) h) fun v1 =>
  cndV v1 (some (tupV [(V.int .i64 1)], h)) (intK .lss x1 (V.int .i64 0) fun v2 =>
  gdP v2 false (some x1) fun v3 =>
  gdP v2 false (some x0) fun v4 =>
  gdP v2 false (nilV v4 fun v6 =>
  some v6) fun v5 =>
  gdP v2 false (faK 0 v5 fun v8 =>
  some v8) fun v7 =>
  gdP v2 false (ld1 v7 h fun v10 =>
  some v10) fun v9 =>
  gdP v2 false (lenL v9 fun v12 =>
  some v12) fun v11 =>
  gdP v2 false (intK .geq v3 v11 fun v14 =>
  some v14) fun v13 =>
  pkK v2 (V.bool true) v13 fun v15 =>
  gdP v15 false (some x2) fun v16 =>
  gdP v15 false (lenS v16 fun v18 =>
  some v18) fun v17 =>
  gdP v15 false (intK .neq v17 (V.int .i64 64) fun v20 =>
  some v20) fun v19 =>
  pkK v15 (V.bool true) v19 fun v21 =>
  cndV v21 (some (tupV [(V.int .i64 800)], h)) (nilV x0 fun v22 =>
  faK 1 v22 fun v23 =>
  ld1 v23 h fun v24 =>
  (dLookup ee t_map_int_string v24 x1 true h).bind fun v25 =>
  exK 0 v25 fun v26 =>
  exK 1 v25 fun v27 =>
  unK .not v27 fun v28 =>
  cndV v28 (nilV x0 fun v29 =>
  faK 2 v29 fun v30 =>
  bindVH (call false n_sync_atomic_Int64_Add [v30, (V.int .i64 1)] h) fun v31 h32 =>
  disk_Disk_Write_j1 lf call (updL 50 (argF [x0, x1, x2]) [(6, (V.int .i64 0)), (10, x0), (11, v1), (9, v1), (13, x1), (14, v2), (15, v2), (16, v3), (17, v4), (18, v5), (19, v7), (20, v9), (21, v11), (22, v13), (23, v15), (24, v15), (25, v16), (26, v17), (27, v19), (28, v21), (12, v21), (30, x0), (31, v22), (32, v23), (33, v24), (34, x1), (35, v25), (29, v25), (36, v26), (37, v27), (7, v26), (8, v27), (38, v27), (39, v28), (40, x0), (41, v29), (42, v30), (43, v31)]) x0 x1 x2 h32) (disk_Disk_Write_j1 lf call (updL 50 (argF [x0, x1, x2]) [(6, (V.int .i64 0)), (10, x0), (11, v1), (9, v1), (13, x1), (14, v2), (15, v2), (16, v3), (17, v4), (18, v5), (19, v7), (20, v9), (21, v11), (22, v13), (23, v15), (24, v15), (25, v16), (26, v17), (27, v19), (28, v21), (12, v21), (30, x0), (31, v22), (32, v23), (33, v24), (34, x1), (35, v25), (29, v25), (36, v26), (37, v27), (7, v26), (8, v27), (38, v27), (39, v28)]) x0 x1 x2 h)))
theorem disk_Disk_Write_run {lf k : Nat} {x0 x1 x2 : V} {h : Heap} {r : V × Heap} (hr : disk_Disk_Write lf (run ee lf k) x0 x1 x2 h = some r) : run ee lf (k + 1) false n_disk_Disk_Write [x0, x1, x2] h = some r :=
  run_of rfl Go.Proofs.Try.func44 (c := Code.ofFunc Go.Proofs.Try.f44) (by kernel_rfl) (by kernel_rfl) ((by kernel_rfl : kCode ee (run ee lf k) (Go.Proofs.Try.f44).ntmps lf (Code.ofFunc Go.Proofs.Try.f44) (kRet ee (Go.Proofs.Try.f44).results.toList) (argF [x0, x1, x2]) h = disk_Disk_Write lf (run ee lf k) x0 x1 x2 h).trans hr)

/-! (*furlong/disk.Disk).Sync -/
noncomputable def disk_Disk_Sync_l1 {R : Type} (lf : Nat) (call : CallF) (K : Out → Fs → Heap → Option R) (v : V) (f : Fs) (h : Heap) : Option R :=
  exK 0 v fun v7 =>
  cndV v7 ((dEntry (f 11) h).bind fun v8 =>
  exK 0 v8 fun v9 =>
  exK 1 v8 fun v10 =>
  nilV (f 0) fun v11 =>
  faK 0 v11 fun v12 =>
  ld1 v12 h fun v13 =>
  iaS 1 v13 v9 fun v14 =>
  st1 v14 v10 h fun h15 =>
  K .normal (updL 26 f [(12, v), (13, v7), (14, v8), (15, v9), (16, v10), (3, v9), (4, v10), (17, (f 0)), (18, v11), (19, v12), (20, v13), (21, v9), (22, v10), (23, v14)]) h15) (K (.exit 0) (updL 26 f [(12, v), (13, v7)]) h)
noncomputable def disk_Disk_Sync_j1 (lf : Nat) (call : CallF) (f : Fs) (y0 : V) (h : Heap) : Option (V × Heap) :=
  bindVH (call false n_disk_Disk_clean [y0] h) fun v16 h17 =>
  some (tupV [(V.int .i64 0)], h17)
noncomputable def disk_Disk_Sync (lf : Nat) (call : CallF) (x0 : V) (h : Heap) : Option (V × Heap) :=
  refK false (eqPtr 3 x0 (V.ptr none) h) fun v1 =>
  cndV v1 (some (tupV [(V.int .i64 1)], h)) (nilV x0 fun v2 =>
  faK 1 v2 fun v3 =>
  ld1 v3 h fun v4 =>
  bindVH (dRange ee t_map_int_string v4 h) fun v5 h6 =>
  mapK 26 [12, 13, 14, 15, 16, 3, 4, 17, 18, 19, 20, 21, 22, 23] (fun f => (f 11)) (fun v f h => disk_Disk_Sync_l1 lf call (fun o f h => some (o, f, h)) v f h) (fun o f h => blkK 0 o (disk_Disk_Sync_j1 lf call f (f 0) h) (seqK o (disk_Disk_Sync_j1 lf call f (f 0) h) (kRet ee [.tmp 2] o f h))) lf (updL 26 (argF [x0]) [(2, (V.int .i64 0)), (5, x0), (6, v1), (7, x0), (8, v2), (9, v3), (10, v4), (11, v5)]) h6)
theorem disk_Disk_Sync_run {lf k : Nat} {x0 : V} {h : Heap} {r : V × Heap} (hr : disk_Disk_Sync lf (run ee lf k) x0 h = some r) : run ee lf (k + 1) false n_disk_Disk_Sync [x0] h = some r :=
  run_of rfl Go.Proofs.Try.func48 (c := Code.ofFunc Go.Proofs.Try.f48) (by kernel_rfl) (by kernel_rfl) ((by kernel_rfl : kCode ee (run ee lf k) (Go.Proofs.Try.f48).ntmps lf (Code.ofFunc Go.Proofs.Try.f48) (kRet ee (Go.Proofs.Try.f48).results.toList) (argF [x0]) h = disk_Disk_Sync lf (run ee lf k) x0 h).trans hr)

/-! (*furlong/disk.Disk).clean -/
noncomputable def disk_Disk_clean (lf : Nat) (call : CallF) (x0 : V) (h : Heap) : Option (V × Heap) :=
  nilV x0 fun v1 =>
  faK 1 v1 fun v2 =>
  ld1 v2 h fun v3 =>
  bindVH (dBuiltin ee .clear #[t_map_int_string] [v3] h) fun v4 h5 =>
  nilV x0 fun v6 =>
  faK 2 v6 fun v7 =>
  bindVH (call false n_sync_atomic_Int64_Store [v7, (V.int .i64 0)] h5) fun v8 h9 =>
  some (tupV [], h9)
theorem disk_Disk_clean_run {lf k : Nat} {x0 : V} {h : Heap} {r : V × Heap} (hr : disk_Disk_clean lf (run ee lf k) x0 h = some r) : run ee lf (k + 1) false n_disk_Disk_clean [x0] h = some r :=
  run_of rfl Go.Proofs.Try.func51 (c := Code.ofFunc Go.Proofs.Try.f51) (by kernel_rfl) (by kernel_rfl) ((by kernel_rfl : kCode ee (run ee lf k) (Go.Proofs.Try.f51).ntmps lf (Code.ofFunc Go.Proofs.Try.f51) (kRet ee (Go.Proofs.Try.f51).results.toList) (argF [x0]) h = disk_Disk_clean lf (run ee lf k) x0 h).trans hr)

/-! math/bits.Mul -/
noncomputable def math_bits_Mul (lf : Nat) (call : CallF) (x0 x1 : V) (h : Heap) : Option (V × Heap) :=
  cndV (V.bool false) (cvI .u32 x0 fun v1 =>
  cvI .u32 x1 fun v2 =>
  bindVH (call false n_math_bits_Mul32 [v1, v2] h) fun v3 h4 =>
  exK 0 v3 fun v5 =>
  exK 1 v3 fun v6 =>
  cvI .u64 v5 fun v7 =>
  cvI .u64 v6 fun v8 =>
  some (tupV [v7, v8], h4)) (bindVH (call false n_math_bits_Mul64 [x0, x1] h) fun v9 h10 =>
  exK 0 v9 fun v11 =>
  exK 1 v9 fun v12 =>
  some (tupV [v11, v12], h10))
theorem math_bits_Mul_run {lf k : Nat} {x0 x1 : V} {h : Heap} {r : V × Heap} (hr : math_bits_Mul lf (run ee lf k) x0 x1 h = some r) : run ee lf (k + 1) false n_math_bits_Mul [x0, x1] h = some r :=
  run_of rfl Go.Proofs.Try.func52 (c := Code.ofFunc Go.Proofs.Try.f52) (by kernel_rfl) (by kernel_rfl) ((by kernel_rfl : kCode ee (run ee lf k) (Go.Proofs.Try.f52).ntmps lf (Code.ofFunc Go.Proofs.Try.f52) (kRet ee (Go.Proofs.Try.f52).results.toList) (argF [x0, x1]) h = math_bits_Mul lf (run ee lf k) x0 x1 h).trans hr)

/-! furlong/frame.Put -/
noncomputable def frame_Put (lf : Nat) (call : CallF) (x0 x1 : V) (h : Heap) : Option (V × Heap) :=
  intK .lss x0 (V.int .i64 0) fun v1 =>
  gdP v1 false (some x0) fun v2 =>
  gdP v1 false (intK .gtr v2 (V.int .i64 4294967295) fun v4 =>
  some v4) fun v3 =>
  pkK v1 (V.bool true) v3 fun v5 =>
  gdP v5 false (some x1) fun v6 =>
  gdP v5 false (lenS v6 fun v8 =>
  some v8) fun v7 =>
  gdP v5 false (intK .gtr v7 (V.int .i64 8192) fun v10 =>
  some v10) fun v9 =>
  pkK v5 (V.bool true) v9 fun v11 =>
  cndV v11 (some (tupV [(V.str []), (V.int .i64 900)], h)) (bindVH (call false n_frame_Num [x0, (V.int .i64 4)] h) fun v12 h13 =>
  lenS x1 fun v14 =>
  bindVH (call false n_frame_Num [v14, (V.int .i64 2)] h13) fun v15 h16 =>
  strK .add v12 v15 fun v17 =>
  strK .add (V.str [70, 82]) v17 fun v18 =>
  strK .add v17 x1 fun v19 =>
  bindVH (call false n_crc_Sum [v19] h16) fun v20 h21 =>
  bindVH (call false n_frame_Num [v20, (V.int .i64 4)] h21) fun v22 h23 =>
  strK .add v18 v22 fun v24 =>
  strK .add v24 x1 fun v25 =>
  lenS x1 fun v26 =>
  bindVH (call false n_frame_Sectors [v26] h23) fun v27 h28 =>
  intK .mul v27 (V.int .i64 64) fun v29 =>
  lenS v25 fun v30 =>
  intK .sub v29 v30 fun v31 =>
  mkS 1 1 [(V.int .u8 0)] v31 v31 h28 fun v32 h33 =>
  cvBS v32 h33 fun v34 =>
  strK .add v25 v34 fun v35 =>
  some (tupV [v35, (V.int .i64 0)], h33))
theorem frame_Put_run {lf k : Nat} {x0 x1 : V} {h : Heap} {r : V × Heap} (hr : frame_Put lf (run ee lf k) x0 x1 h = some r) : run ee lf (k + 1) false n_frame_Put [x0, x1] h = some r :=
  run_of rfl Go.Proofs.Try.func53 (c := Code.ofFunc Go.Proofs.Try.f53) (by kernel_rfl) (by kernel_rfl) ((by kernel_rfl : kCode ee (run ee lf k) (Go.Proofs.Try.f53).ntmps lf (Code.ofFunc Go.Proofs.Try.f53) (kRet ee (Go.Proofs.Try.f53).results.toList) (argF [x0, x1]) h = frame_Put lf (run ee lf k) x0 x1 h).trans hr)

/-! (*sync/atomic.Int64).Store -/
noncomputable def sync_atomic_Int64_Store (lf : Nat) (call : CallF) (x0 x1 : V) (h : Heap) : Option (V × Heap) :=
  nilV x0 fun v1 =>
  faK 0 v1 fun v2 =>
  bindVH (dExt .store [v2, x1] h) fun v3 h4 =>
  some (tupV [], h4)
theorem sync_atomic_Int64_Store_run {lf k : Nat} {x0 x1 : V} {h : Heap} {r : V × Heap} (hr : sync_atomic_Int64_Store lf (run ee lf k) x0 x1 h = some r) : run ee lf (k + 1) false n_sync_atomic_Int64_Store [x0, x1] h = some r :=
  run_of rfl Go.Proofs.Try.func65 (c := Code.ofFunc Go.Proofs.Try.f65) (by kernel_rfl) (by kernel_rfl) ((by kernel_rfl : kCode ee (run ee lf k) (Go.Proofs.Try.f65).ntmps lf (Code.ofFunc Go.Proofs.Try.f65) (kRet ee (Go.Proofs.Try.f65).results.toList) (argF [x0, x1]) h = sync_atomic_Int64_Store lf (run ee lf k) x0 x1 h).trans hr)

/-! math/bits.Mul64 -/
noncomputable def math_bits_Mul64 (lf : Nat) (call : CallF) (x0 x1 : V) (h : Heap) : Option (V × Heap) :=
  intK .and x0 (V.int .u64 4294967295) fun v1 =>
  intK .shr x0 (V.int .u64 32) fun v2 =>
  intK .and x1 (V.int .u64 4294967295) fun v3 =>
  intK .shr x1 (V.int .u64 32) fun v4 =>
  intK .mul v1 v3 fun v5 =>
  intK .mul v2 v3 fun v6 =>
  intK .shr v5 (V.int .u64 32) fun v7 =>
  intK .add v6 v7 fun v8 =>
  intK .and v8 (V.int .u64 4294967295) fun v9 =>
  intK .shr v8 (V.int .u64 32) fun v10 =>
  intK .mul v1 v4 fun v11 =>
  intK .add v9 v11 fun v12 =>
  intK .mul v2 v4 fun v13 =>
  intK .add v13 v10 fun v14 =>
  intK .shr v12 (V.int .u64 32) fun v15 =>
  intK .add v14 v15 fun v16 =>
  intK .mul x0 x1 fun v17 =>
  some (tupV [v16, v17], h)
theorem math_bits_Mul64_run {lf k : Nat} {x0 x1 : V} {h : Heap} {r : V × Heap} (hr : math_bits_Mul64 lf (run ee lf k) x0 x1 h = some r) : run ee lf (k + 1) false n_math_bits_Mul64 [x0, x1] h = some r :=
  run_of rfl Go.Proofs.Try.func67 (c := Code.ofFunc Go.Proofs.Try.f67) (by kernel_rfl) (by kernel_rfl) ((by kernel_rfl : kCode ee (run ee lf k) (Go.Proofs.Try.f67).ntmps lf (Code.ofFunc Go.Proofs.Try.f67) (kRet ee (Go.Proofs.Try.f67).results.toList) (argF [x0, x1]) h = math_bits_Mul64 lf (run ee lf k) x0 x1 h).trans hr)

/-! furlong/frame.Num -/
noncomputable def frame_Num_l1 {R : Type} (lf : Nat) (call : CallF) (K : Out → Fs → Heap → Option R) (f : Fs) (h : Heap) : Option R :=
  intK .lss (f 11) (f 10) fun v4 =>
  cndV v4 (intK .sub (f 1) (V.int .i64 1) fun v5 =>
  intK .sub v5 (f 11) fun v6 =>
  intK .mul (V.int .i64 8) v6 fun v7 =>
  intK .shr (f 0) v7 fun v8 =>
  cvI .u8 v8 fun v9 =>
  iaS 1 (f 5) (f 11) fun v10 =>
  st1 v10 v9 h fun h11 =>
  intK .add (f 11) (V.int .i64 1) fun v12 =>
  K .normal (updL 28 f [(12, v4), (13, (f 11)), (6, (f 11)), (14, (f 5)), (15, (f 11)), (16, (f 0)), (17, (f 1)), (18, v5), (19, (f 11)), (20, v6), (21, v7), (22, v8), (23, v9), (24, v10), (25, v12), (11, v12)]) h11) (K (.exit 0) (updL 28 f [(12, v4)]) h)
noncomputable def frame_Num_j1 (lf : Nat) (call : CallF) (f : Fs) (y5 : V) (h : Heap) : Option (V × Heap) :=
  cvBS y5 h fun v13 =>
  some (tupV [v13], h)
noncomputable def frame_Num (lf : Nat) (call : CallF) (x0 x1 : V) (h : Heap) : Option (V × Heap) :=
  mkS 1 1 [(V.int .u8 0)] x1 x1 h fun v1 h2 =>
  lenL v1 fun v3 =>
  iterK true (frame_Num_l1 lf call) (fun o f h => blkK 0 o (frame_Num_j1 lf call f (f 5) h) (seqK o (frame_Num_j1 lf call f (f 5) h) (kRet ee [.tmp 4] o f h))) lf (updL 28 (argF [x0, x1]) [(4, (V.str [])), (7, x1), (8, v1), (5, v1), (9, v1), (10, v3), (11, (V.int .i64 0))]) h2
theorem frame_Num_run {lf k : Nat} {x0 x1 : V} {h : Heap} {r : V × Heap} (hr : frame_Num lf (run ee lf k) x0 x1 h = some r) : run ee lf (k + 1) false n_frame_Num [x0, x1] h = some r :=
  run_of rfl Go.Proofs.Try.func68 (c := Code.ofFunc Go.Proofs.Try.f68) (by kernel_rfl) (by kernel_rfl) ((by kernel_rfl : kCode ee (run ee lf k) (Go.Proofs.Try.f68).ntmps lf (Code.ofFunc Go.Proofs.Try.f68) (kRet ee (Go.Proofs.Try.f68).results.toList) (argF [x0, x1]) h = frame_Num lf (run ee lf k) x0 x1 h).trans hr)

end Go.Zs
