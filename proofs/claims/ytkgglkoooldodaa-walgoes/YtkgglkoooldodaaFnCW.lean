/- The typed form of the program's functions: written by gen.py. -/
import Derived.Test.YtkgglkoooldodaaEnvW
set_option linter.unusedVariables false
set_option linter.unusedSimpArgs false
set_option linter.deprecated false
set_option linter.unusedVariables false
namespace Go.Zs
open Go
abbrev nb_crc_Sum : Nat := 69
abbrev nb_crc_more : Nat := 76

/-! furlong/crc.more -/
noncomputable def crcb_more_l2 {R : Type} (lf : Nat) (call : CallF) (K : Out → Fs → Heap → Option R) (f : Fs) (h : Heap) : Option R :=
  intK .lss (f 18) (V.int .i64 8) fun v6 =>
  cndV v6 (intK .and (f 0) (V.int .u32 1) fun v7 =>
  intK .shr (f 0) (V.int .u64 1) fun v8 =>
  intK .eql v7 (V.int .u32 1) fun v9 =>
  cndV v9 (intK .xor v8 (V.int .u32 3988292384) fun v10 =>
  intK .add (f 18) (V.int .i64 1) fun v11 =>
  K .normal (updL 31 f [(19, v6), (20, (f 0)), (21, v7), (6, v7), (22, (f 0)), (23, v8), (0, v8), (24, v7), (25, v9), (26, v8), (27, v10), (0, v10), (28, v11), (18, v11)]) h) (intK .add (f 18) (V.int .i64 1) fun v12 =>
  K .normal (updL 31 f [(19, v6), (20, (f 0)), (21, v7), (6, v7), (22, (f 0)), (23, v8), (0, v8), (24, v7), (25, v9), (28, v12), (18, v12)]) h)) (K (.exit 2) (updL 31 f [(19, v6)]) h)
noncomputable def crcb_more_j1 {R : Type} (lf : Nat) (call : CallF) (K : Out → Fs → Heap → Option R) (f : Fs) (y9 : V) (h : Heap) : Option R :=
  intK .add y9 (V.int .i64 1) fun v15 =>
  K .normal (updL 31 f [(29, v15), (9, v15)]) h
noncomputable def crcb_more_l1 {R : Type} (lf : Nat) (call : CallF) (K : Out → Fs → Heap → Option R) (f : Fs) (h : Heap) : Option R :=
  intK .lss (f 9) (f 8) fun v2 =>
  cndV v2 (ixS (f 1) (f 9) fun v3 =>
  cvI .u32 v3 fun v4 =>
  intK .xor (f 0) v4 fun v5 =>
  iterK true (crcb_more_l2 lf call) (fun o f h => blkK 2 o (intK .add (f 9) (V.int .i64 1) fun v13 =>
  K .normal (updL 31 f [(29, v13), (9, v13)]) h) (blkK 1 o (intK .add (f 9) (V.int .i64 1) fun v14 =>
  K .normal (updL 31 f [(29, v14), (9, v14)]) h) (seqK o (crcb_more_j1 lf call K f (f 9) h) (K o f h)))) lf (updL 31 f [(10, v2), (11, (f 9)), (5, (f 9)), (12, (f 0)), (13, (f 1)), (14, (f 9)), (15, v3), (16, v4), (17, v5), (0, v5), (18, (V.int .i64 0))]) h) (K (.exit 0) (updL 31 f [(10, v2)]) h)
noncomputable def crcb_more_j2 (lf : Nat) (call : CallF) (f : Fs) (y0 : V) (h : Heap) : Option (V × Heap) :=
  some (tupV [y0], h)
noncomputable def crcb_more (lf : Nat) (call : CallF) (x0 x1 : V) (h : Heap) : Option (V × Heap) :=
  lenS x1 fun v1 =>
  iterK true (crcb_more_l1 lf call) (fun o f h => blkK 0 o (crcb_more_j2 lf call f (f 0) h) (seqK o (crcb_more_j2 lf call f (f 0) h) (kRet eb [.tmp 4] o f h))) lf (updL 31 (argF [x0, x1]) [(4, (V.int .u32 0)), (7, x1), (8, v1), (9, (V.int .i64 0))]) h
theorem crcb_more_run {lf k : Nat} {x0 x1 : V} {h : Heap} {r : V × Heap} (hr : crcb_more lf (run eb lf k) x0 x1 h = some r) : run eb lf (k + 1) false nb_crc_more [x0, x1] h = some r :=
  run_of rfl Go.Proofs.Try.func76 (c := Code.ofFunc Go.Proofs.Try.f76) (by kernel_rfl) (by kernel_rfl) ((by kernel_rfl : kCode eb (run eb lf k) (Go.Proofs.Try.f76).ntmps lf (Code.ofFunc Go.Proofs.Try.f76) (kRet eb (Go.Proofs.Try.f76).results.toList) (argF [x0, x1]) h = crcb_more lf (run eb lf k) x0 x1 h).trans hr)

/-! furlong/crc.Sum -/
noncomputable def crcb_Sum (lf : Nat) (call : CallF) (x0 : V) (h : Heap) : Option (V × Heap) :=
  bindVH (call false nb_crc_more [(V.int .u32 4294967295), x0] h) fun v1 h2 =>
  unK .xor v1 fun v3 =>
  cvI .i64 v3 fun v4 =>
  some (tupV [v4], h2)
theorem crcb_Sum_run {lf k : Nat} {x0 : V} {h : Heap} {r : V × Heap} (hr : crcb_Sum lf (run eb lf k) x0 h = some r) : run eb lf (k + 1) false nb_crc_Sum [x0] h = some r :=
  run_of rfl Go.Proofs.Try.func69 (c := Code.ofFunc Go.Proofs.Try.f69) (by kernel_rfl) (by kernel_rfl) ((by kernel_rfl : kCode eb (run eb lf k) (Go.Proofs.Try.f69).ntmps lf (Code.ofFunc Go.Proofs.Try.f69) (kRet eb (Go.Proofs.Try.f69).results.toList) (argF [x0]) h = crcb_Sum lf (run eb lf k) x0 h).trans hr)

end Go.Zs
