/- disk, wal: over owned objects. -/
import Derived.Test.YtkgglkoooldodaaWl4
import Derived.Test.YtkgglkoooldodaaZsI6
set_option linter.unusedVariables false
set_option linter.unusedSimpArgs false
set_option linter.deprecated false
namespace Go.Zs
open Go Go.Proofs

theorem Comes.cm {lf f d args h v} (g : Comes lf f d args h (v, h)) : Cm ee lf f d args h v := fun F hF => by
  have := g (F - d)
  rwa [Nat.sub_add_cancel hF] at this
theorem Comes.at' {lf f d args h r} (g : Comes lf f d args h r) {F : Nat} (hF : d ≤ F) : run ee lf F false f args h = some r := by
  have := g (F - d)
  rwa [Nat.sub_add_cancel hF] at this
theorem Gives.at' {lf f d args h v} (g : Gives lf f d args h v) {F : Nat} (hF : d ≤ F) : ∃ h', Gr h h' ∧ Hok h' ∧ run ee lf F false f args h = some (v, h') := by
  have := g (F - d)
  rwa [Nat.sub_add_cancel hF] at this
theorem Does.at' {lf f d args h Q} (g : Does lf f d args h Q) {F : Nat} (hF : d ≤ F) : ∃ v h', run ee lf F false f args h = some (v, h') ∧ Q v h' := by
  have := g (F - d)
  rwa [Nat.sub_add_cancel hF] at this

structure DiskW (D : DiskM) (bs : List Nat) (cl : Nat) : Prop where
  len : bs.length = D.fresh.length
  lt' : ∀ b, b ∈ bs → b < cl
  ndb : bs.Nodup
  nd : (D.fresh.map (·.1)).Nodup
  lt : ∀ p, p ∈ D.fresh.map (·.1) → p < D.n
  le : D.n ≤ 1024
  s64 : ∀ s, s ∈ D.synced → s.length = 64
  f64 : ∀ p, p ∈ D.fresh → p.2.length = 64
def DiskB (d sy m : Nat) (D : DiskM) (bs : List Nat) (cl : Nat) : Blk :=
  [(d, .cells [.sl (some (sy, 0)) D.n D.n 1 true, .map (some m), .int .i64 D.fresh.length] .own), (sy, .cells (D.synced.map .str) .own), (m, .map (encM .str D.fresh) bs cl)]
/-- A disk's objects. -/
def IsDisk (d : Nat) (D : DiskM) (B : Blk) : Prop := ∃ sy m bs cl, B = DiskB d sy m D bs cl ∧ DiskW D bs cl

section
variable {h h' : Heap} {d sy m w : Nat} {D D' : DiskM} {B R : Blk} {lf : Nat}

theorem IsDisk.is (hB : IsDisk d D B) (O : Own h (B ++ R)) : ∃ sy m, DiskAt h d sy m D ∧ B.map (·.1) = [d, sy, m] := by
  obtain ⟨sy, m, bs, cl, rfl, w⟩ := hB
  exact ⟨sy, m, ⟨O.get 0 rfl, O.get 1 rfl, ⟨bs, cl, O.get 2 rfl, w.len, w.lt', w.ndb⟩, w.nd, w.lt, ⟨O.ne 0 1 rfl rfl (by decide), O.ne 0 2 rfl rfl (by decide), O.ne 1 2 rfl rfl (by decide)⟩, w.le, w.s64, w.f64⟩, rfl⟩
theorem IsDisk.back (O : Own h (B ++ R)) (hk : B.map (·.1) = [d, sy, m]) (H : DiskAt h' d sy m D') (T : Tch [d, sy, m] h h') (k : Hok h') : ∃ B', Own h' (B' ++ R) ∧ IsDisk d D' B' := by
  obtain ⟨bs, cl, a, b1, b2, b3⟩ := H.om
  refine ⟨DiskB d sy m D' bs cl, ⟨k, ?_, fun p hp => ?_⟩, sy, m, bs, cl, rfl, ⟨b1, b2, b3, H.nd, H.lt, H.le, H.s64, H.f64⟩⟩
  · have := O.nd
    rw [List.map_append, hk] at this
    rw [List.map_append]; exact this
  · rcases List.mem_append.1 hp with hp | hp
    · simp only [DiskB, List.mem_cons, List.not_mem_nil, or_false] at hp
      rcases hp with rfl | rfl | rfl
      · exact H.od
      · exact H.os
      · exact a
    · have hlt := O.ok.lt (O.has p (List.mem_append_right _ hp))
      rw [T.get p.1 hlt ?_]
      · exact O.has p (List.mem_append_right _ hp)
      · intro hm
        rw [← hk] at hm
        obtain ⟨q, h1, h2⟩ := List.mem_map.1 hm
        exact O.keys h1 p hp h2.symm

theorem dSectors (hB : IsDisk d D B) (O : Own h (B ++ R)) : Cm ee lf n_disk_Disk_Sectors 1 [.ptr (some (d, 0))] h (.int .i64 D.n) :=
  let ⟨_, _, H, _⟩ := hB.is O
  (disk_Sectors_ok H).cm
theorem dRead (hB : IsDisk d D B) (O : Own h (B ++ R)) (n : Int) : Cm ee lf n_disk_Disk_Read 1 [.ptr (some (d, 0)), .int .i64 n] h (D.readV n) :=
  let ⟨_, _, H, _⟩ := hB.is O
  (disk_Read_ok H n).cm
theorem dWrite (hB : IsDisk d D B) {i : Nat} (hi : i < D.n) {s : List UInt8} (hs : s.length = 64) : Ct ee lf n_disk_Disk_Write 2 [.ptr (some (d, 0)), .int .i64 i, .str s] B fun v B' => v = .int .i64 0 ∧ IsDisk d (D.write i s) B' := by
  intro F R h hF O
  obtain ⟨sy, m, H, hk⟩ := hB.is O
  obtain ⟨h', e1, e2, e3, e4, _⟩ := disk_Write_ok (lf := lf) H O.ok hi hs
  obtain ⟨B', o, b⟩ := IsDisk.back O hk e2 (e3.mono (by simp)) e4
  exact ⟨_, h', B', e1.at' hF, o, rfl, b⟩
theorem dSync (hlf : 1000000 ≤ lf) (hB : IsDisk d D B) : Ct ee lf n_disk_Disk_Sync 3 [.ptr (some (d, 0))] B fun v B' => v = .int .i64 0 ∧ IsDisk d D.sync B' := by
  intro F R h hF O
  obtain ⟨sy, m, H, hk⟩ := hB.is O
  obtain ⟨v, h', e1, e2, e3, e4, e5⟩ := (disk_Sync_ok hlf H O.ok).at' hF
  obtain ⟨B', o, b⟩ := IsDisk.back O hk e3 e4 e5
  exact ⟨v, h', B', e1, o, e2, b⟩
theorem IsDisk.wf (hB : IsDisk d D B) : ∃ bs cl, DiskW D bs cl := let ⟨_, _, bs, cl, _, w⟩ := hB; ⟨bs, cl, w⟩
theorem IsDisk.le (hB : IsDisk d D B) : D.n ≤ 1024 := let ⟨_, _, w⟩ := hB.wf; w.le
theorem DiskM.write_n (D : DiskM) (i : Nat) (s : List UInt8) : (D.write i s).n = D.n := rfl

/-- A log. -/
structure WalM where
  D : DiskM
  next : Nat
  pos : Nat
  held : Nat
structure WalW (X : WalM) : Prop where
  le : X.pos + X.held ≤ X.D.n
  nx : X.next ≤ X.pos
def WalM.room (X : WalM) : Nat := X.D.n - X.pos - X.held
def walC (d : Nat) (X : WalM) : Ob := .cells [.ptr (some (d, 0)), .int .i64 X.next, .int .i64 X.pos, .int .i64 X.held] .own
def IsWal (d w : Nat) (X : WalM) (B : Blk) : Prop := ∃ BD, B = (w, walC d X) :: BD ∧ IsDisk d X.D BD ∧ WalW X

theorem wRoom {X : WalM} (hB : IsWal d w X B) (O : Own h (B ++ R)) : Cm ee lf n_wal_Wal_Room 2 [.ptr (some (w, 0))] h (.int .i64 X.room) := by
  obtain ⟨BD, rfl, hD, hw⟩ := hB
  have g0 := O.get 0 rfl
  have OD : Own h (BD ++ R) := O.tail
  refine cm_of (d := 1) (G := fun call => wal_Wal_Room lf call _ h) (fun k r => wal_Wal_Room_run) fun k hk => ?_
  have e1 := dSectors (lf := lf) hD OD k hk
  have e2 := (atomic_Load_ok (lf := lf) g0 (o := 3) rfl).at' hk
  have hle := hD.le
  have h1 := hw.le
  unfold wal_Wal_Room
  unfold walC at g0
  simp only [intK_i, io_lss, io_leq, io_gtr, io_geq, io_eql, io_neq, obind_s, gdP_b, gdE_b, pkK_b, cndV_b, decide_eq_true_eq, decide_eq_false_iff_not, lenS_s, lenL_l, bindVH_s, exK_t, nilV_p, faK_p, refK_s, eqPtr_nn, eqPtr_sn, List.getElem?_cons_zero, List.getElem?_cons_succ, Bool.not_eq_true', bne_false', if_true, if_false, Bool.false_eq_true, cvI_i, Nat.zero_add, Nat.add_zero, ld1_c g0, e1, e2, io_sub]
  rw [wrap_i64 (by omega) (by omega)]
  simp only [intK_i, io_lss, io_leq, io_gtr, io_geq, io_eql, io_neq, obind_s, gdP_b, gdE_b, pkK_b, cndV_b, decide_eq_true_eq, decide_eq_false_iff_not, lenS_s, lenL_l, bindVH_s, exK_t, nilV_p, faK_p, refK_s, eqPtr_nn, eqPtr_sn, List.getElem?_cons_zero, List.getElem?_cons_succ, Bool.not_eq_true', bne_false', if_true, if_false, Bool.false_eq_true, cvI_i, Nat.zero_add, Nat.add_zero, io_sub, sameO_i, sameO_b, sameO_t, sameO_p, sameO_l, sameO_m, Bool.and_true, Bool.and_self, cond_t]
  rw [wrap_i64 (by omega) (by omega)]
  unfold WalM.room
  show some (V.int .i64 _, h) = some (V.int .i64 _, h)
  congr 3
  omega

theorem wNext {X : WalM} (hB : IsWal d w X B) (O : Own h (B ++ R)) : Cm ee lf n_wal_Wal_Next 1 [.ptr (some (w, 0))] h (.int .i64 X.next) := by
  obtain ⟨BD, rfl, hD, hw⟩ := hB
  have g0 := O.get 0 rfl
  refine cm_of (d := 0) (G := fun call => wal_Wal_Next lf call _ h) (fun k r => wal_Wal_Next_run) fun k hk => ?_
  unfold wal_Wal_Next
  unfold walC at g0
  simp only [intK_i, io_lss, io_leq, io_gtr, io_geq, io_eql, io_neq, obind_s, gdP_b, gdE_b, pkK_b, cndV_b, decide_eq_true_eq, decide_eq_false_iff_not, lenS_s, lenL_l, bindVH_s, exK_t, nilV_p, faK_p, refK_s, eqPtr_nn, eqPtr_sn, List.getElem?_cons_zero, List.getElem?_cons_succ, Bool.not_eq_true', bne_false', if_true, if_false, Bool.false_eq_true, cvI_i, Nat.zero_add, Nat.add_zero, ld1_c g0]
  rfl

theorem wForce (hlf : 1000000 ≤ lf) {X : WalM} (hB : IsWal d w X B) : Ct ee lf n_wal_Wal_Force 4 [.ptr (some (w, 0))] B fun v B' => v = .int .i64 0 ∧ IsWal d w { X with D := X.D.sync } B' := by
  obtain ⟨BD, rfl, hD, hw⟩ := hB
  refine ct_of (G := fun call h => wal_Wal_Force lf call _ h) (fun k h r => wal_Wal_Force_run) fun k R h hk O => ?_
  have g0 := O.get 0 rfl
  obtain ⟨v, h1, B1, e1, O1, rfl, b1⟩ := dSync hlf hD k ((w, walC d X) :: R) h hk (O.perm (perm_c fun a => by simp only [List.count_append, List.count_cons, List.count_nil]; ac_rfl))
  unfold wal_Wal_Force
  unfold walC at g0
  simp only [intK_i, io_lss, io_leq, io_gtr, io_geq, io_eql, io_neq, obind_s, gdP_b, gdE_b, pkK_b, cndV_b, decide_eq_true_eq, decide_eq_false_iff_not, lenS_s, lenL_l, bindVH_s, exK_t, nilV_p, faK_p, refK_s, eqPtr_nn, eqPtr_sn, List.getElem?_cons_zero, List.getElem?_cons_succ, Bool.not_eq_true', bne_false', if_true, if_false, Bool.false_eq_true, cvI_i, Nat.zero_add, Nat.add_zero, ld1_c g0, e1]
  exact ⟨_, h1, (w, walC d X) :: B1, rfl, O1.perm (perm_c fun a => by simp only [List.count_append, List.count_cons, List.count_nil]; ac_rfl), rfl, B1, rfl, b1, ⟨by rw [DiskM.sync_n]; exact hw.le, hw.nx⟩⟩

def WalM.holdB (X : WalM) (k : Int) : Bool := decide (0 ≤ k) && decide (k ≤ X.room)
def WalM.hold (X : WalM) (k : Int) : WalM := if X.holdB k then { X with held := X.held + k.toNat } else X
theorem wHold {X : WalM} (hB : IsWal d w X B) (n : Int) : Ct ee lf n_wal_Wal_Hold 3 [.ptr (some (w, 0)), .int .i64 n] B fun v B' => v = .bool (X.holdB n) ∧ IsWal d w (X.hold n) B' := by
  refine ct_of (G := fun call h => wal_Wal_Hold lf call _ _ h) (fun k h r => wal_Wal_Hold_run) fun k R h hk O => ?_
  have e1 := wRoom (lf := lf) hB O k hk
  unfold wal_Wal_Hold
  by_cases hn : n < 0
  · have hh : X.holdB n = false := by unfold WalM.holdB; simp; omega
    simp only [intK_i, io_lss, io_leq, io_gtr, io_geq, io_eql, io_neq, obind_s, gdP_b, gdE_b, pkK_b, cndV_b, decide_eq_true_eq, decide_eq_false_iff_not, lenS_s, lenL_l, bindVH_s, exK_t, nilV_p, faK_p, refK_s, eqPtr_nn, eqPtr_sn, List.getElem?_cons_zero, List.getElem?_cons_succ, Bool.not_eq_true', bne_false', if_true, if_false, Bool.false_eq_true, cvI_i, Nat.zero_add, Nat.add_zero, hn, decide_true]
    exact ⟨_, h, B, rfl, O, by rw [hh]; rfl, by unfold WalM.hold; rw [hh]; exact hB⟩
  · by_cases hr : (X.room : Int) < n
    · have hh : X.holdB n = false := by unfold WalM.holdB; simp; omega
      simp only [intK_i, io_lss, io_leq, io_gtr, io_geq, io_eql, io_neq, obind_s, gdP_b, gdE_b, pkK_b, cndV_b, decide_eq_true_eq, decide_eq_false_iff_not, lenS_s, lenL_l, bindVH_s, exK_t, nilV_p, faK_p, refK_s, eqPtr_nn, eqPtr_sn, List.getElem?_cons_zero, List.getElem?_cons_succ, Bool.not_eq_true', bne_false', if_true, if_false, Bool.false_eq_true, cvI_i, Nat.zero_add, Nat.add_zero, hn, decide_false, e1, hr, decide_true]
      exact ⟨_, h, B, rfl, O, by rw [hh]; rfl, by unfold WalM.hold; rw [hh]; exact hB⟩
    · have hh : X.holdB n = true := by unfold WalM.holdB; simp; omega
      obtain ⟨BD, rfl, hD, hw⟩ := hB
      have g0 := O.get 0 rfl
      have hle := hD.le
      have h1 := hw.le
      have hroom : X.room = X.D.n - X.pos - X.held := rfl
      have e2 := (atomic_Add_ok (lf := lf) (e := n) g0 rfl (o := 3) rfl (by omega) (by omega)).at' (show 1 ≤ k by omega)
      simp only [intK_i, io_lss, io_leq, io_gtr, io_geq, io_eql, io_neq, obind_s, gdP_b, gdE_b, pkK_b, cndV_b, decide_eq_true_eq, decide_eq_false_iff_not, lenS_s, lenL_l, bindVH_s, exK_t, nilV_p, faK_p, refK_s, eqPtr_nn, eqPtr_sn, List.getElem?_cons_zero, List.getElem?_cons_succ, Bool.not_eq_true', bne_false', if_true, if_false, Bool.false_eq_true, cvI_i, Nat.zero_add, Nat.add_zero, hn, decide_false, e1, hr, e2]
      refine ⟨_, _, (w, _) :: BD, rfl, O.set 0 rfl _, by rw [hh]; rfl, BD, ?_, by unfold WalM.hold; rw [hh]; exact hD, ?_⟩
      · unfold WalM.hold walC
        rw [hh]
        simp only [List.set_cons_zero, List.set_cons_succ, if_true]
        have : (X.held : Int) + n = ((X.held + n.toNat : Nat) : Int) := by omega
        rw [this]
      · unfold WalM.hold; rw [hh]
        exact ⟨by simp only [if_true]; omega, hw.nx⟩
end
end Go.Zs
/- wal: what is freed, written, appended, used. -/
namespace Go.Zs
open Go Go.Proofs

section
variable {h h' : Heap} {d sy m w : Nat} {D D' : DiskM} {X : WalM} {B R : Blk} {lf : Nat}

def WalM.freeB (X : WalM) (k : Int) : Bool := decide (0 ≤ k) && decide (k ≤ X.held)
def WalM.free (X : WalM) (k : Int) : WalM := if X.freeB k then { X with held := X.held - k.toNat } else X
theorem wFree (hB : IsWal d w X B) (n : Int) (h64 : n < 9223372036854775808) : Ct ee lf n_wal_Wal_Free 3 [.ptr (some (w, 0)), .int .i64 n] B fun v B' => v = .int .i64 (if X.freeB n then 0 else 1000) ∧ IsWal d w (X.free n) B' := by
  refine ct_of (G := fun call h => wal_Wal_Free lf call _ _ h) (fun k h r => wal_Wal_Free_run) fun k R h hk O => ?_
  obtain ⟨BD, rfl, hD, hw⟩ := hB
  have g0 := O.get 0 rfl
  have hle := hD.le
  have h1 := hw.le
  have e1 := (atomic_Load_ok (lf := lf) g0 (o := 3) rfl).at' (show 1 ≤ k by omega)
  unfold wal_Wal_Free
  by_cases hn : n < 0
  · have hh : X.freeB n = false := by unfold WalM.freeB; simp; omega
    simp only [intK_i, io_lss, io_leq, io_gtr, io_geq, io_eql, io_neq, obind_s, gdP_b, gdE_b, pkK_b, cndV_b, decide_eq_true_eq, decide_eq_false_iff_not, lenS_s, lenL_l, bindVH_s, exK_t, nilV_p, faK_p, refK_s, eqPtr_nn, eqPtr_sn, List.getElem?_cons_zero, List.getElem?_cons_succ, Bool.not_eq_true', bne_false', if_true, if_false, Bool.false_eq_true, cvI_i, Nat.zero_add, Nat.add_zero, hn, decide_true]
    exact ⟨_, h, _, rfl, O, by rw [hh]; rfl, by unfold WalM.free; rw [hh]; exact ⟨BD, rfl, hD, hw⟩⟩
  · by_cases hr : (X.held : Int) < n
    · have hh : X.freeB n = false := by unfold WalM.freeB; simp; omega
      simp only [intK_i, io_lss, io_leq, io_gtr, io_geq, io_eql, io_neq, obind_s, gdP_b, gdE_b, pkK_b, cndV_b, decide_eq_true_eq, decide_eq_false_iff_not, lenS_s, lenL_l, bindVH_s, exK_t, nilV_p, faK_p, refK_s, eqPtr_nn, eqPtr_sn, List.getElem?_cons_zero, List.getElem?_cons_succ, Bool.not_eq_true', bne_false', if_true, if_false, Bool.false_eq_true, cvI_i, Nat.zero_add, Nat.add_zero, hn, decide_false, e1, wrap_i64 (x := n) (by omega) (by omega), hr, decide_true]
      exact ⟨_, h, _, rfl, O, by rw [hh]; rfl, by unfold WalM.free; rw [hh]; exact ⟨BD, rfl, hD, hw⟩⟩
    · have hh : X.freeB n = true := by unfold WalM.freeB; simp; omega
      have e2 := (atomic_Add_ok (lf := lf) (e := 0 - n) g0 rfl (o := 3) rfl (by omega) (by omega)).at' (show 1 ≤ k by omega)
      simp only [intK_i, io_lss, io_leq, io_gtr, io_geq, io_eql, io_neq, obind_s, gdP_b, gdE_b, pkK_b, cndV_b, decide_eq_true_eq, decide_eq_false_iff_not, lenS_s, lenL_l, bindVH_s, exK_t, nilV_p, faK_p, refK_s, eqPtr_nn, eqPtr_sn, List.getElem?_cons_zero, List.getElem?_cons_succ, Bool.not_eq_true', bne_false', if_true, if_false, Bool.false_eq_true, cvI_i, Nat.zero_add, Nat.add_zero, hn, decide_false, e1, hr, unK, dUn, wrap_i64 (x := n) (by omega) (by omega), wrap_i64 (x := 0 - n) (by omega) (by omega), e2]
      refine ⟨_, _, (w, _) :: BD, rfl, O.set 0 rfl _, by rw [hh]; rfl, BD, ?_, by unfold WalM.free; rw [hh]; exact hD, ?_⟩
      · unfold WalM.free walC
        rw [hh]
        simp only [List.set_cons_zero, List.set_cons_succ, if_true]
        have : (X.held : Int) + (0 - n) = ((X.held - n.toNat : Nat) : Int) := by omega
        rw [this]
      · unfold WalM.free; rw [hh]
        exact ⟨by simp only [if_true]; omega, hw.nx⟩

/-- So many sectors, written one behind the other. -/
def DiskM.puts (D : DiskM) (p : Nat) : Nat → List UInt8 → DiskM
  | 0, _ => D
  | n + 1, s => (D.write p (s.take 64)).puts (p + 1) n (s.drop 64)
theorem DiskM.puts_n : ∀ (n p : Nat) (D : DiskM) (s : List UInt8), (D.puts p n s).n = D.n
  | 0, _, _, _ => rfl
  | n + 1, p, D, s => by rw [DiskM.puts, DiskM.puts_n n]; rfl

structure WrI (w d next held : Nat) (R : Blk) (Df : DiskM) (pf : Nat) (n : Nat) (f : Fs) (h : Heap) : Prop where
  f0 : f 0 = .ptr (some (w, 0))
  ex : ∃ s D p BD, f 4 = .str s ∧ s.length = 64 * n ∧ IsDisk d D BD ∧ p + n ≤ D.n ∧ D.puts p n s = Df ∧ p + n = pf ∧
    Own h ((w, .cells [.ptr (some (d, 0)), .int .i64 next, .int .i64 p, .int .i64 held] .own) :: (BD ++ R))
structure WrQ (w d next held : Nat) (R : Blk) (Df : DiskM) (pf : Nat) (o : Out) (f : Fs) (h : Heap) : Prop where
  out : o = .exit 0
  f0 : f 0 = .ptr (some (w, 0))
  ex : ∃ BD, IsDisk d Df BD ∧ Own h ((w, .cells [.ptr (some (d, 0)), .int .i64 next, .int .i64 pf, .int .i64 held] .own) :: (BD ++ R))

theorem write_step {T : Type} {next held pf k : Nat} {Df : DiskM} (hk : 2 ≤ k) (n : Nat) (f : Fs) (h : Heap) (I : WrI w d next held R Df pf n f h) (K : Out → Fs → Heap → Option T) :
    (∃ o f' h', wal_Wal_write_l1 lf (run ee lf k) K f h = K o f' h' ∧ o ≠ .normal ∧ WrQ w d next held R Df pf o f' h') ∨ (∃ m f' h', wal_Wal_write_l1 lf (run ee lf k) K f h = K .normal f' h' ∧ m < n ∧ WrI w d next held R Df pf m f' h') := by
  obtain ⟨h0, s, D, p, BD, h4, hs, hD, hp, hDf, hpf, O⟩ := I
  have hle := hD.le
  unfold wal_Wal_write_l1
  cases n with
  | zero =>
    have : s = [] := List.eq_nil_of_length_eq_zero (by omega)
    subst this
    left
    simp only [h4, strK_s, dStr_neq, intK_i, io_lss, io_leq, io_gtr, io_geq, io_eql, io_neq, obind_s, gdP_b, gdE_b, pkK_b, cndV_b, decide_eq_true_eq, decide_eq_false_iff_not, lenS_s, lenL_l, bindVH_s, exK_t, nilV_p, faK_p, refK_s, eqPtr_nn, eqPtr_sn, List.getElem?_cons_zero, List.getElem?_cons_succ, Bool.not_eq_true', bne_false', if_true, if_false, Bool.false_eq_true, cvI_i, Nat.zero_add, Nat.add_zero, decide_true, Bool.not_true]
    exact ⟨_, _, _, rfl, (fun e => by cases e), rfl, h0, BD, by rw [← hDf]; exact hD, by rw [← hpf]; exact O⟩
  | succ n =>
    right
    have g0 := O.get 0 rfl
    have hne : ¬ s = [] := by rintro rfl; simp at hs
    have hsl : slS (.str s) none (some (.int .i64 64)) = fun (K : V → Option T) => K (.str (s.take 64)) := by
      funext K; exact slS_ns (b := 64) (by omega) K
    have hsl2 : slS (.str s) none (some (.int .i64 64)) = fun (K : V → Option V) => K (.str (s.take 64)) := by
      funext K; exact slS_ns (b := 64) (by omega) K
    have hsr : slS (.str s) (some (.int .i64 64)) none = fun (K : V → Option T) => K (.str (s.drop 64)) := by
      funext K; exact slS_sn (a := 64) (by omega) K
    obtain ⟨v, h1, B1, e1, O1, rfl, b1⟩ := dWrite (lf := lf) hD (i := p) (by omega) (s := s.take 64) (by simp; omega) k _ h hk (O.perm (perm_c fun a => by simp only [List.count_append, List.count_cons, List.count_nil]; ac_rfl) : Own h (BD ++ ((w, _) :: R)))
    have O2 : Own h1 ((w, _) :: (B1 ++ R)) := O1.perm (perm_c fun a => by simp only [List.count_append, List.count_cons, List.count_nil]; ac_rfl)
    have g1 := O2.get 0 rfl
    simp only [h4, h0, strK_s, dStr_neq, intK_i, io_lss, io_leq, io_gtr, io_geq, io_eql, io_neq, obind_s, gdP_b, gdE_b, pkK_b, cndV_b, decide_eq_true_eq, decide_eq_false_iff_not, lenS_s, lenL_l, bindVH_s, exK_t, nilV_p, faK_p, refK_s, eqPtr_nn, eqPtr_sn, List.getElem?_cons_zero, List.getElem?_cons_succ, Bool.not_eq_true', bne_false', if_true, if_false, Bool.false_eq_true, cvI_i, Nat.zero_add, Nat.add_zero, hne, decide_false, Bool.not_false, ld1_c g0, hsl, hsl2, e1, sameO_i, sameO_b, sameO_t, sameO_p, sameO_l, sameO_m, Bool.and_true, Bool.and_self, cond_t, ld1_c g1, io_add, wrap_i64 (x := (p : Int) + 1) (by omega) (by omega), hsr]
    rw [st1_c g1 rfl (by simp) rfl]
    refine ⟨n, _, _, rfl, by omega, h0, s.drop 64, D.write p (s.take 64), p + 1, B1, rfl, by simp; omega, b1, by rw [DiskM.write_n]; omega, hDf, by omega, ?_⟩
    exact O2.set 0 rfl _

/-- A record is written. -/
def WalM.write (X : WalM) (data : List UInt8) : WalM :=
  { X with D := X.D.puts X.pos (sectorsN data.length) (putB X.next data), next := X.next + 1, pos := X.pos + sectorsN data.length }
theorem sectorsN_pos (n : Nat) : 1 ≤ sectorsN n := by unfold sectorsN; omega
theorem wWrite (hlf : 1000000 ≤ lf) (hB : IsWal d w X B) (data : List UInt8) (hd : data.length ≤ 8192) (hf : X.pos + sectorsN data.length + X.held ≤ X.D.n) :
    Ct ee lf n_wal_Wal_write 4 [.ptr (some (w, 0)), .str data] B fun v B' => v = .tup [] ∧ IsWal d w (X.write data) B' := by
  refine ct_of (G := fun call h => wal_Wal_write lf call _ _ h) (fun k h r => wal_Wal_write_run) fun k R h hk O => ?_
  obtain ⟨BD, rfl, hD, hw⟩ := hB
  have g0 := O.get 0 rfl
  have hle := hD.le
  have h1 := hw.le
  have h2 := hw.nx
  obtain ⟨h1', G1, K1, e1⟩ := (frame_Put_ok hlf X.next (by omega) data hd h O.ok).at' hk
  have O1 := O.gr G1 K1
  unfold wal_Wal_write
  simp only [intK_i, io_lss, io_leq, io_gtr, io_geq, io_eql, io_neq, obind_s, gdP_b, gdE_b, pkK_b, cndV_b, decide_eq_true_eq, decide_eq_false_iff_not, lenS_s, lenL_l, bindVH_s, exK_t, nilV_p, faK_p, refK_s, eqPtr_nn, eqPtr_sn, List.getElem?_cons_zero, List.getElem?_cons_succ, Bool.not_eq_true', bne_false', if_true, if_false, Bool.false_eq_true, cvI_i, Nat.zero_add, Nat.add_zero, ld1_c g0, e1]
  generalize hF : updL _ _ _ = F
  obtain ⟨o, f', h2', e2, _, rfl, q0, BD2, b2, O2⟩ := iterK_rule (fun n f h I K => write_step (T := V × Heap) (lf := lf) (w := w) (d := d) (R := R) (next := X.next) (held := X.held) (pf := X.pos + sectorsN data.length)
    (Df := X.D.puts X.pos (sectorsN data.length) (putB X.next data)) (show 2 ≤ k by omega) n f h I K) lf (sectorsN data.length) F h1'
    (fun o f h => blkK 0 o (wal_Wal_write_j1 lf (run ee lf k) f (f 0) h) (seqK o (wal_Wal_write_j1 lf (run ee lf k) f (f 0) h) (kRet ee [] o f h))) (by unfold sectorsN; omega)
    ⟨by rw [← hF]; rfl, putB X.next data, X.D, X.pos, BD, by rw [← hF]; rfl, by rw [putB_length, Nat.mul_comm], hD, by omega, rfl, rfl, O1⟩
  rw [e2, blkK_e, if_pos rfl, q0]
  unfold wal_Wal_write_j1
  have g2 := O2.get 0 rfl
  simp only [intK_i, io_lss, io_leq, io_gtr, io_geq, io_eql, io_neq, obind_s, gdP_b, gdE_b, pkK_b, cndV_b, decide_eq_true_eq, decide_eq_false_iff_not, lenS_s, lenL_l, bindVH_s, exK_t, nilV_p, faK_p, refK_s, eqPtr_nn, eqPtr_sn, List.getElem?_cons_zero, List.getElem?_cons_succ, Bool.not_eq_true', bne_false', if_true, if_false, Bool.false_eq_true, cvI_i, Nat.zero_add, Nat.add_zero, ld1_c g2, io_add, wrap_i64 (x := (X.next : Int) + 1) (by omega) (by omega)]
  rw [st1_c g2 rfl (by simp) rfl]
  refine ⟨_, _, _, rfl, O2.set 0 rfl _, rfl, BD2, rfl, b2, ⟨?_, ?_⟩⟩
  · show X.pos + sectorsN data.length + X.held ≤ (X.D.puts X.pos (sectorsN data.length) (putB X.next data)).n
    rw [DiskM.puts_n]; exact hf
  · show X.next + 1 ≤ X.pos + sectorsN data.length
    have := sectorsN_pos data.length
    omega

def WalM.appC (X : WalM) (data : List UInt8) : Int := if 8192 < data.length then 1000 else if X.room < sectorsN data.length then 1001 else 0
def WalM.app (X : WalM) (data : List UInt8) : WalM := if X.appC data = 0 then X.write data else X
theorem wAppend (hlf : 1000000 ≤ lf) (hB : IsWal d w X B) (data : List UInt8) : Ct ee lf n_wal_Wal_Append 5 [.ptr (some (w, 0)), .str data] B fun v B' => v = .int .i64 (X.appC data) ∧ IsWal d w (X.app data) B' := by
  refine ct_of (G := fun call h => wal_Wal_Append lf call _ _ h) (fun k h r => wal_Wal_Append_run) fun k R h hk O => ?_
  unfold wal_Wal_Append
  by_cases h1 : 8192 < data.length
  · have hc : X.appC data = 1000 := by unfold WalM.appC; rw [if_pos h1]
    simp only [intK_i, io_lss, io_leq, io_gtr, io_geq, io_eql, io_neq, obind_s, gdP_b, gdE_b, pkK_b, cndV_b, decide_eq_true_eq, decide_eq_false_iff_not, lenS_s, lenL_l, bindVH_s, exK_t, nilV_p, faK_p, refK_s, eqPtr_nn, eqPtr_sn, List.getElem?_cons_zero, List.getElem?_cons_succ, Bool.not_eq_true', bne_false', if_true, if_false, Bool.false_eq_true, cvI_i, Nat.zero_add, Nat.add_zero, show (8192 : Int) < data.length by omega]
    exact ⟨_, h, B, rfl, O, by rw [hc]; rfl, by unfold WalM.app; rw [hc]; exact hB⟩
  · have e1 := (frame_Sectors_ok (lf := lf) data.length (by omega) h).at' (show 1 ≤ k by omega)
    have e2 := wRoom (lf := lf) hB O k (by omega)
    simp only [intK_i, io_lss, io_leq, io_gtr, io_geq, io_eql, io_neq, obind_s, gdP_b, gdE_b, pkK_b, cndV_b, decide_eq_true_eq, decide_eq_false_iff_not, lenS_s, lenL_l, bindVH_s, exK_t, nilV_p, faK_p, refK_s, eqPtr_nn, eqPtr_sn, List.getElem?_cons_zero, List.getElem?_cons_succ, Bool.not_eq_true', bne_false', if_true, if_false, Bool.false_eq_true, cvI_i, Nat.zero_add, Nat.add_zero, show ¬ (8192 : Int) < data.length by omega, e1, e2]
    by_cases h2 : X.room < sectorsN data.length
    · have hc : X.appC data = 1001 := by unfold WalM.appC; rw [if_neg h1, if_pos h2]
      simp only [intK_i, io_lss, io_leq, io_gtr, io_geq, io_eql, io_neq, obind_s, gdP_b, gdE_b, pkK_b, cndV_b, decide_eq_true_eq, decide_eq_false_iff_not, lenS_s, lenL_l, bindVH_s, exK_t, nilV_p, faK_p, refK_s, eqPtr_nn, eqPtr_sn, List.getElem?_cons_zero, List.getElem?_cons_succ, Bool.not_eq_true', bne_false', if_true, if_false, Bool.false_eq_true, cvI_i, Nat.zero_add, Nat.add_zero, show (X.room : Int) < sectorsN data.length by omega]
      exact ⟨_, h, B, rfl, O, by rw [hc]; rfl, by unfold WalM.app; rw [hc]; exact hB⟩
    · have hc : X.appC data = 0 := by unfold WalM.appC; rw [if_neg h1, if_neg h2]
      have hroom : X.room = X.D.n - X.pos - X.held := rfl
      have hs := sectorsN_pos data.length
      obtain ⟨v, h', B', e3, O3, rfl, b3⟩ := wWrite hlf hB data (by omega) (by obtain ⟨_, _, _, hw⟩ := hB; have := hw.le; omega) k R h (by omega) O
      simp only [intK_i, io_lss, io_leq, io_gtr, io_geq, io_eql, io_neq, obind_s, gdP_b, gdE_b, pkK_b, cndV_b, decide_eq_true_eq, decide_eq_false_iff_not, lenS_s, lenL_l, bindVH_s, exK_t, nilV_p, faK_p, refK_s, eqPtr_nn, eqPtr_sn, List.getElem?_cons_zero, List.getElem?_cons_succ, Bool.not_eq_true', bne_false', if_true, if_false, Bool.false_eq_true, cvI_i, Nat.zero_add, Nat.add_zero, show ¬ (X.room : Int) < sectorsN data.length by omega, e3]
      exact ⟨_, h', B', rfl, O3, by rw [hc]; rfl, by unfold WalM.app; rw [hc]; exact b3⟩

def WalM.useB (X : WalM) (data : List UInt8) : Bool := decide (data.length ≤ 52) && decide (X.held ≠ 0)
def WalM.use (X : WalM) (data : List UInt8) : WalM := if X.useB data then { X with held := X.held - 1 }.write data else X
theorem wUse (hlf : 1000000 ≤ lf) (hB : IsWal d w X B) (data : List UInt8) (hd : data.length < 9223372036854775808) : Ct ee lf n_wal_Wal_Use 5 [.ptr (some (w, 0)), .str data] B fun v B' => v = .int .i64 (if X.useB data then 0 else 1000) ∧ IsWal d w (X.use data) B' := by
  refine ct_of (G := fun call h => wal_Wal_Use lf call _ _ h) (fun k h r => wal_Wal_Use_run) fun k R h hk O => ?_
  unfold wal_Wal_Use
  have hsec : ∃ q : Nat, run ee lf k false n_frame_Sectors [.int .i64 data.length] h = some (.int .i64 q, h) ∧ (q = 1 ↔ data.length ≤ 52) := by
    by_cases h1 : 8192 < data.length
    · exact ⟨0, (frame_Sectors_big (lf := lf) data.length h1 hd h).at' (show 1 ≤ k by omega), by omega⟩
    · exact ⟨_, (frame_Sectors_ok (lf := lf) data.length (by omega) h).at' (show 1 ≤ k by omega), by unfold sectorsN; omega⟩
  obtain ⟨q, e1, hq⟩ := hsec
  obtain ⟨BD, rfl, hD, hw⟩ := hB
  have g0 := O.get 0 rfl
  have hle := hD.le
  have h1 := hw.le
  by_cases hl : data.length ≤ 52
  · have e2 := (atomic_Load_ok (lf := lf) g0 (o := 3) rfl).at' (show 1 ≤ k by omega)
    have hq1 := hq.2 hl
    subst hq1
    by_cases h0 : X.held = 0
    · have hb : X.useB data = false := by unfold WalM.useB; simp [h0]
      simp only [intK_i, io_lss, io_leq, io_gtr, io_geq, io_eql, io_neq, obind_s, gdP_b, gdE_b, pkK_b, cndV_b, decide_eq_true_eq, decide_eq_false_iff_not, lenS_s, lenL_l, bindVH_s, exK_t, nilV_p, faK_p, refK_s, eqPtr_nn, eqPtr_sn, List.getElem?_cons_zero, List.getElem?_cons_succ, Bool.not_eq_true', bne_false', if_true, if_false, Bool.false_eq_true, cvI_i, Nat.zero_add, Nat.add_zero, e1, e2, show ((1 : Nat) : Int) = 1 from rfl, ne_eq, not_true, decide_false, show (X.held : Int) = 0 by omega, decide_true]
      exact ⟨_, h, _, rfl, O, by rw [hb]; rfl, by unfold WalM.use; rw [hb]; exact ⟨BD, rfl, hD, hw⟩⟩
    · have hb : X.useB data = true := by unfold WalM.useB; simp [h0, hl]
      have e3 := (atomic_Add_ok (lf := lf) (e := -1) g0 rfl (o := 3) rfl (by omega) (by omega)).at' (show 1 ≤ k by omega)
      have hX : IsWal d w { X with held := X.held - 1 } ((w, walC d { X with held := X.held - 1 }) :: BD) := ⟨BD, rfl, hD, ⟨by show X.pos + (X.held - 1) ≤ X.D.n; omega, hw.nx⟩⟩
      have O2 := O.set 0 rfl (walC d { X with held := X.held - 1 })
      have hcell : ([.ptr (some (d, 0)), .int .i64 X.next, .int .i64 X.pos, .int .i64 X.held] : List V).set 3 (.int .i64 ((X.held : Int) + -1)) = [.ptr (some (d, 0)), .int .i64 X.next, .int .i64 X.pos, .int .i64 (X.held - 1 : Nat)] := by
        simp only [List.set_cons_zero, List.set_cons_succ]
        have : (X.held : Int) + -1 = ((X.held - 1 : Nat) : Int) := by omega
        rw [this]
      rw [hcell] at e3
      obtain ⟨v, h', B', e4, O4, rfl, b4⟩ := wWrite hlf hX data (by omega) (by
        have : sectorsN data.length = 1 := by unfold sectorsN; omega
        show X.pos + sectorsN data.length + (X.held - 1) ≤ X.D.n
        omega) k R _ (by omega) O2
      simp only [intK_i, io_lss, io_leq, io_gtr, io_geq, io_eql, io_neq, obind_s, gdP_b, gdE_b, pkK_b, cndV_b, decide_eq_true_eq, decide_eq_false_iff_not, lenS_s, lenL_l, bindVH_s, exK_t, nilV_p, faK_p, refK_s, eqPtr_nn, eqPtr_sn, List.getElem?_cons_zero, List.getElem?_cons_succ, Bool.not_eq_true', bne_false', if_true, if_false, Bool.false_eq_true, cvI_i, Nat.zero_add, Nat.add_zero, e1, e2, show ((1 : Nat) : Int) = 1 from rfl, ne_eq, not_true, decide_false, show ¬ (X.held : Int) = 0 by omega, e3]
      unfold walC at e4
      simp only [e4, intK_i, io_lss, io_leq, io_gtr, io_geq, io_eql, io_neq, obind_s, gdP_b, gdE_b, pkK_b, cndV_b, decide_eq_true_eq, decide_eq_false_iff_not, lenS_s, lenL_l, bindVH_s, exK_t, nilV_p, faK_p, refK_s, eqPtr_nn, eqPtr_sn, List.getElem?_cons_zero, List.getElem?_cons_succ, Bool.not_eq_true', bne_false', if_true, if_false, Bool.false_eq_true, cvI_i, Nat.zero_add, Nat.add_zero]
      exact ⟨_, h', B', rfl, O4, by rw [hb]; rfl, by unfold WalM.use; rw [hb]; exact b4⟩
  · have hb : X.useB data = false := by unfold WalM.useB; simp [hl]
    have hq1 : ¬ (q : Int) = 1 := by omega
    simp only [intK_i, io_lss, io_leq, io_gtr, io_geq, io_eql, io_neq, obind_s, gdP_b, gdE_b, pkK_b, cndV_b, decide_eq_true_eq, decide_eq_false_iff_not, lenS_s, lenL_l, bindVH_s, exK_t, nilV_p, faK_p, refK_s, eqPtr_nn, eqPtr_sn, List.getElem?_cons_zero, List.getElem?_cons_succ, Bool.not_eq_true', bne_false', if_true, if_false, Bool.false_eq_true, cvI_i, Nat.zero_add, Nat.add_zero, e1, ne_eq, hq1, not_false_eq_true, decide_true]
    exact ⟨_, h, _, rfl, O, by rw [hb]; rfl, by unfold WalM.use; rw [hb]; exact ⟨BD, rfl, hD, hw⟩⟩
end
end Go.Zs
/- wal: what is read, cleaned, opened. -/
namespace Go.Zs
open Go Go.Proofs

section
variable {h h' : Heap} {d sy m w : Nat} {D D' : DiskM} {X : WalM} {B R : Blk} {lf : Nat}

/-- So many sectors from one on, as far as there are. -/
def DiskM.restB (D : DiskM) (p : Nat) : Nat → List UInt8
  | 0 => []
  | i + 1 => if p + i < D.n then D.restB p i ++ D.at (p + i) else D.restB p i
theorem DiskM.restB_length (hs : ∀ i, i < D.n → (D.at i).length = 64) (p : Nat) : ∀ i, (D.restB p i).length = 64 * (min (p + i) (max p D.n) - p)
  | 0 => by simp only [DiskM.restB, List.length_nil]; omega
  | i + 1 => by
    simp only [DiskM.restB]
    split
    · rw [List.length_append, DiskM.restB_length hs p i, hs _ ‹_›]; omega
    · rw [DiskM.restB_length hs p i]; omega
theorem DiskM.restB_end (p : Nat) : ∀ i j, D.n ≤ p + i → D.restB p (i + j) = D.restB p i
  | i, 0, _ => rfl
  | i, j + 1, hle => by
    show (if p + (i + j) < D.n then D.restB p (i + j) ++ D.at (p + (i + j)) else D.restB p (i + j)) = _
    rw [if_neg (by omega)]; exact DiskM.restB_end p i j hle
theorem IsDisk.len (hB : IsDisk d D B) (O : Own h (B ++ R)) : ∀ i, i < D.n → (D.at i).length = 64 := fun i hi => let ⟨_, _, H, _⟩ := hB.is O; DiskM.at_length H hi

structure RsI (d p : Nat) (D : DiskM) (h0 : Heap) (n : Nat) (f : Fs) (h : Heap) : Prop where
  hh : h = h0
  f0 : f 0 = .ptr (some (d, 0))
  f1 : f 1 = .int .i64 p
  f9 : f 9 = .int .i64 129
  ex : ∃ i : Nat, n + i = 129 ∧ f 10 = .int .i64 i ∧ f 5 = .str (D.restB p i) ∧ (D.restB p i).length ≤ 64 * i
theorem rest_step {T : Type} {k p : Nat} (hk : 1 ≤ k) (hD : IsDisk d D B) (O : Own h (B ++ R)) (hp : p ≤ D.n) (n : Nat) (f : Fs) (h1 : Heap) (I : RsI d p D h n f h1) (K : Out → Fs → Heap → Option T) :
    (∃ o f' h', wal_rest_l1 lf (run ee lf k) K f h1 = K o f' h' ∧ o ≠ .normal ∧ o = .exit 0 ∧ h' = h ∧ f' 5 = .str (D.restB p 129)) ∨ (∃ m f' h', wal_rest_l1 lf (run ee lf k) K f h1 = K .normal f' h' ∧ m < n ∧ RsI d p D h m f' h') := by
  obtain ⟨rfl, h0, h1', h9, i, hn, h10, h5, hlen⟩ := I
  have hle := hD.le
  unfold wal_rest_l1
  cases n with
  | zero =>
    left
    obtain rfl : i = 129 := by omega
    simp only [h9, h10, intK_i, io_lss, io_leq, io_gtr, io_geq, io_eql, io_neq, obind_s, gdP_b, gdE_b, pkK_b, cndV_b, decide_eq_true_eq, decide_eq_false_iff_not, lenS_s, lenL_l, bindVH_s, exK_t, nilV_p, faK_p, refK_s, eqPtr_nn, eqPtr_sn, List.getElem?_cons_zero, List.getElem?_cons_succ, Bool.not_eq_true', bne_false', if_true, if_false, Bool.false_eq_true, cvI_i, Nat.zero_add, Nat.add_zero, show ¬ (((129 : Nat) : Int) < 129) by omega]
    exact ⟨_, _, _, rfl, (fun e => by cases e), rfl, rfl, h5⟩
  | succ n =>
    have hlt : (i : Int) < 129 := by omega
    have e1 := dRead (lf := lf) hD O ((p : Int) + (i : Int)) k hk
    by_cases hi : p + i < D.n
    · right
      have hr : D.readV ((p : Int) + (i : Int)) = .tup [.str (D.at (p + i)), .int .i64 0] := by
        unfold DiskM.readV
        rw [if_neg (by omega)]
        have : ((p : Int) + (i : Int)).toNat = p + i := by omega
        rw [this]
      rw [hr] at e1
      have hl := hD.len O (p + i) hi
      simp only [h0, h1', h5, h9, h10, intK_i, io_lss, io_leq, io_gtr, io_geq, io_eql, io_neq, obind_s, gdP_b, gdE_b, pkK_b, cndV_b, decide_eq_true_eq, decide_eq_false_iff_not, lenS_s, lenL_l, bindVH_s, exK_t, nilV_p, faK_p, refK_s, eqPtr_nn, eqPtr_sn, List.getElem?_cons_zero, List.getElem?_cons_succ, Bool.not_eq_true', bne_false', if_true, if_false, Bool.false_eq_true, cvI_i, Nat.zero_add, Nat.add_zero, hlt, io_add, wrap_i64 (x := (p : Int) + (i : Int)) (by omega) (by omega), wrap_i64 (x := (i : Int) + 1) (by omega) (by omega), e1, ne_eq, not_true, decide_false]
      rw [strK_add (by omega)]
      refine ⟨n, _, _, rfl, by omega, rfl, h0, h1', h9, i + 1, by omega, rfl, ?_, ?_⟩
      · show V.str (D.restB p i ++ D.at (p + i)) = .str (if p + i < D.n then D.restB p i ++ D.at (p + i) else D.restB p i)
        rw [if_pos hi]
      · show (if p + i < D.n then D.restB p i ++ D.at (p + i) else D.restB p i).length ≤ _
        rw [if_pos hi, List.length_append, hl]; omega
    · left
      have hr : D.readV ((p : Int) + (i : Int)) = .tup [.str [], .int .i64 800] := by
        unfold DiskM.readV
        rw [if_pos (by omega)]
      rw [hr] at e1
      simp only [h0, h1', h9, h10, intK_i, io_lss, io_leq, io_gtr, io_geq, io_eql, io_neq, obind_s, gdP_b, gdE_b, pkK_b, cndV_b, decide_eq_true_eq, decide_eq_false_iff_not, lenS_s, lenL_l, bindVH_s, exK_t, nilV_p, faK_p, refK_s, eqPtr_nn, eqPtr_sn, List.getElem?_cons_zero, List.getElem?_cons_succ, Bool.not_eq_true', bne_false', if_true, if_false, Bool.false_eq_true, cvI_i, Nat.zero_add, Nat.add_zero, hlt, io_add, wrap_i64 (x := (p : Int) + (i : Int)) (by omega) (by omega), e1, ne_eq, show ¬ ((800 : Int) = 0) by decide, not_false_eq_true, decide_true]
      refine ⟨_, _, _, rfl, (fun e => by cases e), rfl, rfl, ?_⟩
      show f 5 = _
      rw [h5, ← DiskM.restB_end p i (129 - i) (by omega), show i + (129 - i) = 129 by omega]

theorem wRest (hlf : 1000000 ≤ lf) {p : Nat} (hD : IsDisk d D B) (O : Own h (B ++ R)) (hp : p ≤ D.n) : Cm ee lf n_wal_rest 2 [.ptr (some (d, 0)), .int .i64 p] h (.str (D.restB p 129)) := by
  refine cm_of (d := 1) (G := fun call => wal_rest lf call _ _ h) (fun k r => wal_rest_run) fun k hk => ?_
  unfold wal_rest
  have e1 := (frame_Sectors_ok (lf := lf) 8192 (by omega) h).at' hk
  have e1' : run ee lf k false n_frame_Sectors [V.int .i64 8192] h = some (.int .i64 129, h) := e1
  simp only [intK_i, io_lss, io_leq, io_gtr, io_geq, io_eql, io_neq, obind_s, gdP_b, gdE_b, pkK_b, cndV_b, decide_eq_true_eq, decide_eq_false_iff_not, lenS_s, lenL_l, bindVH_s, exK_t, nilV_p, faK_p, refK_s, eqPtr_nn, eqPtr_sn, List.getElem?_cons_zero, List.getElem?_cons_succ, Bool.not_eq_true', bne_false', if_true, if_false, Bool.false_eq_true, cvI_i, Nat.zero_add, Nat.add_zero, e1']
  generalize hF : updL _ _ _ = F
  obtain ⟨o, f', h1, e2, _, rfl, rfl, q5⟩ := iterK_rule (fun n f h1 I K => rest_step (T := V × Heap) (lf := lf) (p := p) hk hD O hp n f h1 I K) lf 129 F h
    (fun o f h => blkK 0 o (wal_rest_j1 lf (run ee lf k) f (f 5) h) (seqK o (wal_rest_j1 lf (run ee lf k) f (f 5) h) (kRet ee [.tmp 4] o f h))) (by omega)
    ⟨rfl, by rw [← hF]; rfl, by rw [← hF]; rfl, by rw [← hF]; rfl, 0, rfl, by rw [← hF]; rfl, by rw [← hF]; rfl, by simp [DiskM.restB]⟩
  rw [e2, blkK_e, if_pos rfl, q5]
  rfl

def zeroB64 : List UInt8 := List.replicate 64 0
/-- Sectors that are not empty are made so. -/
def DiskM.cleanN (D : DiskM) (p : Nat) : Nat → DiskM
  | 0 => D
  | n + 1 => (if D.at p = zeroB64 then D else D.write p zeroB64).cleanN (p + 1) n
theorem DiskM.cleanN_n : ∀ (n p : Nat) (D : DiskM), (D.cleanN p n).n = D.n
  | 0, _, _ => rfl
  | n + 1, p, D => by rw [DiskM.cleanN, DiskM.cleanN_n n]; split <;> rfl

structure ClI (w d : Nat) (ob : Ob) (R : Blk) (Df : DiskM) (nn : Nat) (n : Nat) (f : Fs) (h : Heap) : Prop where
  f0 : f 0 = .ptr (some (w, 0))
  f2 : f 2 = .str zeroB64
  ex : ∃ D p BD, f 3 = .int .i64 (p : Nat) ∧ IsDisk d D BD ∧ D.n = nn ∧ p + n = nn ∧ D.cleanN p n = Df ∧ Own h ((w, ob) :: (BD ++ R))
theorem clean_step {T : Type} {k nn : Nat} {Df : DiskM} {c1 c2 c3 : V} (hk : 2 ≤ k) (n : Nat) (f : Fs) (h : Heap) (I : ClI w d (.cells [.ptr (some (d, 0)), c1, c2, c3] .own) R Df nn n f h) (K : Out → Fs → Heap → Option T) :
    (∃ o f' h', wal_Wal_clean_l1 lf (run ee lf k) K f h = K o f' h' ∧ o ≠ .normal ∧ o = .exit 0 ∧ f' 0 = .ptr (some (w, 0)) ∧ ∃ BD, IsDisk d Df BD ∧ Own h' ((w, .cells [.ptr (some (d, 0)), c1, c2, c3] .own) :: (BD ++ R))) ∨
    (∃ m f' h', wal_Wal_clean_l1 lf (run ee lf k) K f h = K .normal f' h' ∧ m < n ∧ ClI w d (.cells [.ptr (some (d, 0)), c1, c2, c3] .own) R Df nn m f' h') := by
  obtain ⟨h0, h2, D, p, BD, h3, hD, hn, hp, hDf, O⟩ := I
  have hle := hD.le
  have g0 := O.get 0 rfl
  have OD : Own h (BD ++ ((w, _) :: R)) := O.perm (perm_c fun a => by simp only [List.count_append, List.count_cons, List.count_nil]; ac_rfl)
  have e1 := dSectors (lf := lf) hD OD k (by omega)
  unfold wal_Wal_clean_l1
  cases n with
  | zero =>
    left
    simp only [h0, h3, intK_i, io_lss, io_leq, io_gtr, io_geq, io_eql, io_neq, obind_s, gdP_b, gdE_b, pkK_b, cndV_b, decide_eq_true_eq, decide_eq_false_iff_not, lenS_s, lenL_l, bindVH_s, exK_t, nilV_p, faK_p, refK_s, eqPtr_nn, eqPtr_sn, List.getElem?_cons_zero, List.getElem?_cons_succ, Bool.not_eq_true', bne_false', if_true, if_false, Bool.false_eq_true, cvI_i, Nat.zero_add, Nat.add_zero, ld1_c g0, e1, show ¬ (p : Int) < D.n by omega]
    refine ⟨_, _, _, rfl, (fun e => by cases e), rfl, h0, BD, ?_, O⟩
    rw [← hDf]; exact hD
  | succ n =>
    right
    have e2 := dRead (lf := lf) hD OD (p : Int) k (by omega)
    have hr : D.readV (p : Int) = .tup [.str (D.at p), .int .i64 0] := by
      unfold DiskM.readV
      rw [if_neg (by omega), Int.toNat_natCast]
    rw [hr] at e2
    simp only [h0, h2, h3, intK_i, io_lss, io_leq, io_gtr, io_geq, io_eql, io_neq, obind_s, gdP_b, gdE_b, pkK_b, cndV_b, decide_eq_true_eq, decide_eq_false_iff_not, lenS_s, lenL_l, bindVH_s, exK_t, nilV_p, faK_p, refK_s, eqPtr_nn, eqPtr_sn, List.getElem?_cons_zero, List.getElem?_cons_succ, Bool.not_eq_true', bne_false', if_true, if_false, Bool.false_eq_true, cvI_i, Nat.zero_add, Nat.add_zero, ld1_c g0, e1, show (p : Int) < D.n by omega, e2, strK_s, dStr_neq]
    by_cases hz : D.at p = zeroB64
    · simp only [hz, decide_true, Bool.not_true, intK_i, io_lss, io_leq, io_gtr, io_geq, io_eql, io_neq, obind_s, gdP_b, gdE_b, pkK_b, cndV_b, decide_eq_true_eq, decide_eq_false_iff_not, lenS_s, lenL_l, bindVH_s, exK_t, nilV_p, faK_p, refK_s, eqPtr_nn, eqPtr_sn, List.getElem?_cons_zero, List.getElem?_cons_succ, Bool.not_eq_true', bne_false', if_true, if_false, Bool.false_eq_true, cvI_i, Nat.zero_add, Nat.add_zero, wal_Wal_clean_j1, io_add, wrap_i64 (x := (p : Int) + 1) (by omega) (by omega)]
      refine ⟨n, _, _, rfl, by omega, h0, h2, D, p + 1, BD, rfl, hD, hn, by omega, ?_, O⟩
      rw [← hDf, DiskM.cleanN, if_pos hz]
    · obtain ⟨v, h1, B1, e3, O1, rfl, b1⟩ := dWrite (lf := lf) hD (i := p) (by omega) (s := zeroB64) (by simp [zeroB64]) k _ h hk OD
      simp only [hz, decide_false, Bool.not_false, intK_i, io_lss, io_leq, io_gtr, io_geq, io_eql, io_neq, obind_s, gdP_b, gdE_b, pkK_b, cndV_b, decide_eq_true_eq, decide_eq_false_iff_not, lenS_s, lenL_l, bindVH_s, exK_t, nilV_p, faK_p, refK_s, eqPtr_nn, eqPtr_sn, List.getElem?_cons_zero, List.getElem?_cons_succ, Bool.not_eq_true', bne_false', if_true, if_false, Bool.false_eq_true, cvI_i, Nat.zero_add, Nat.add_zero, wal_Wal_clean_j1, e3, io_add, wrap_i64 (x := (p : Int) + 1) (by omega) (by omega)]
      refine ⟨n, _, _, rfl, by omega, h0, h2, D.write p zeroB64, p + 1, B1, rfl, b1, hn, by omega, ?_, O1.perm (perm_c fun a => by simp only [List.count_append, List.count_cons, List.count_nil]; ac_rfl)⟩
      rw [← hDf, DiskM.cleanN, if_neg hz]

def WalM.clean (X : WalM) : WalM := { X with D := (X.D.cleanN X.pos (X.D.n - X.pos)).sync }
theorem wClean (hlf : 1000000 ≤ lf) (hB : IsWal d w X B) : Ct ee lf n_wal_Wal_clean 4 [.ptr (some (w, 0))] B fun v B' => v = .tup [] ∧ IsWal d w X.clean B' := by
  refine ct_of (G := fun call h => wal_Wal_clean lf call _ h) (fun k h r => wal_Wal_clean_run) fun k R h hk O => ?_
  obtain ⟨BD, rfl, hD, hw⟩ := hB
  have hle := hD.le
  have h1 := hw.le
  unfold wal_Wal_clean
  rw [show (V.int .i64 64) = .int .i64 ((64 : Nat) : Int) from rfl, mkS_i 1 1 _ _ _ _ _ _ _ (Nat.le_refl _) (by omega) (by omega)]
  have hz : (copies [V.int .u8 0] 64) = bytesV zeroB64 := by rw [copies_one, zeroB64, bytesV_zeros]
  rw [cvBS_c (s := zeroB64) (Heap.get_new_self _ _) (fun _ => by rw [hz, bytesV_length]; simp [zeroB64]) (fun _ => by
    rw [hz, List.drop_zero, List.take_of_length_le (by rw [bytesV_length]; simp [zeroB64])]
    exact bytesOfVs_map _) (fun h0 => by cases h0)]
  have O1 : Own _ ((w, walC d X) :: (BD ++ R)) := (O.new (.cells (copies [V.int .u8 0] 64) .own)).tail
  generalize h.new _ = h1' at O1 ⊢
  have g1 := O1.get 0 rfl
  simp only [intK_i, io_lss, io_leq, io_gtr, io_geq, io_eql, io_neq, obind_s, gdP_b, gdE_b, pkK_b, cndV_b, decide_eq_true_eq, decide_eq_false_iff_not, lenS_s, lenL_l, bindVH_s, exK_t, nilV_p, faK_p, refK_s, eqPtr_nn, eqPtr_sn, List.getElem?_cons_zero, List.getElem?_cons_succ, Bool.not_eq_true', bne_false', if_true, if_false, Bool.false_eq_true, cvI_i, Nat.zero_add, Nat.add_zero, ld1_c g1]
  generalize hF : updL _ _ _ = F
  obtain ⟨o, f', h2, e2, _, rfl, q0, BD2, b2, O2⟩ := iterK_rule (fun n f h I K => clean_step (T := V × Heap) (lf := lf) (w := w) (d := d) (R := R) (nn := X.D.n) (Df := X.D.cleanN X.pos (X.D.n - X.pos)) (show 2 ≤ k by omega) n f h I K)
    lf (X.D.n - X.pos) F h1'
    (fun o f h => blkK 0 o (wal_Wal_clean_j2 lf (run ee lf k) f (f 0) h) (seqK o (wal_Wal_clean_j2 lf (run ee lf k) f (f 0) h) (kRet ee [] o f h))) (by omega)
    ⟨by rw [← hF]; rfl, by rw [← hF]; rfl, X.D, X.pos, BD, by rw [← hF]; rfl, hD, rfl, by omega, rfl, O1⟩
  rw [e2, blkK_e, if_pos rfl, q0]
  unfold wal_Wal_clean_j2
  have g2 := O2.get 0 rfl
  obtain ⟨v, h3, B3, e3, O3, rfl, b3⟩ := dSync hlf b2 k ((w, walC d X) :: R) h2 (by omega) (O2.perm (perm_c fun a => by simp only [List.count_append, List.count_cons, List.count_nil]; ac_rfl))
  simp only [intK_i, io_lss, io_leq, io_gtr, io_geq, io_eql, io_neq, obind_s, gdP_b, gdE_b, pkK_b, cndV_b, decide_eq_true_eq, decide_eq_false_iff_not, lenS_s, lenL_l, bindVH_s, exK_t, nilV_p, faK_p, refK_s, eqPtr_nn, eqPtr_sn, List.getElem?_cons_zero, List.getElem?_cons_succ, Bool.not_eq_true', bne_false', if_true, if_false, Bool.false_eq_true, cvI_i, Nat.zero_add, Nat.add_zero, ld1_c g2, e3]
  refine ⟨_, h3, (w, walC d X) :: B3, rfl, O3.perm (perm_c fun a => by simp only [List.count_append, List.count_cons, List.count_nil]; ac_rfl), rfl, B3, rfl, b3, ⟨?_, hw.nx⟩⟩
  show X.pos + X.held ≤ DiskM.n (DiskM.sync _)
  rw [DiskM.sync_n, DiskM.cleanN_n]; exact h1

/-- What is read from a place on: the texts, where they end, how many they are. -/
def DiskM.scan (D : DiskM) : Nat → Nat → Nat → List (List UInt8) × Nat × Nat
  | 0, p, x => ([], p, x)
  | n + 1, p, x => match getB (D.restB p 129) x with
    | none => ([], p, x)
    | some s => (s :: (D.scan n (p + sectorsN s.length) (x + 1)).1, (D.scan n (p + sectorsN s.length) (x + 1)).2)
theorem getB_some {s : List UInt8} {x : Nat} {t : List UInt8} (hg : getB s x = some t) : t.length ≤ 8192 ∧ sectorsN t.length * 64 ≤ s.length := by
  unfold getB at hg
  split at hg
  · cases hg
  · split at hg
    · cases hg
    · rename_i h1 h2
      split at hg
      · cases hg
        have hm : manyB s = sectorsN (sizeH s) * 64 ∧ sizeH s ≤ 8192 := by
          unfold manyB at h2 ⊢
          split at h2
          · simp at h2
          · rename_i hh; rw [if_neg hh]; exact ⟨rfl, by omega⟩
        have hfit : 12 + sizeH s ≤ sectorsN (sizeH s) * 64 := by unfold sectorsN; omega
        have hl : ((s.drop 12).take (sizeH s)).length = sizeH s := by
          rw [List.length_take, List.length_drop]; omega
        rw [hl]; omega
      · cases hg

theorem getB_nil (x : Nat) {s : List UInt8} (h : s.length < 12) : getB s x = none := by unfold getB; rw [if_pos h]
theorem DiskM.scan_stop (D : DiskM) (hs : ∀ i, i < D.n → (D.at i).length = 64) : ∀ (a b p x : Nat), D.n < p + a → D.n < p + b → D.scan a p x = D.scan b p x
  | 0, 0, _, _, _, _ => rfl
  | 0, b + 1, p, x, h1, _ => by
    have := DiskM.restB_length hs p 129
    simp only [DiskM.scan, getB_nil x (show (D.restB p 129).length < 12 by omega)]
  | a + 1, 0, p, x, _, h2 => by
    have := DiskM.restB_length hs p 129
    simp only [DiskM.scan, getB_nil x (show (D.restB p 129).length < 12 by omega)]
  | a + 1, b + 1, p, x, h1, h2 => by
    simp only [DiskM.scan]
    cases getB (D.restB p 129) x with
    | none => rfl
    | some s =>
      have := sectorsN_pos s.length
      simp only [DiskM.scan_stop D hs a b (p + sectorsN s.length) (x + 1) (by omega) (by omega)]

structure OpI (w d : Nat) (D : DiskM) (BD R : Blk) (all : List (List UInt8) × Nat × Nat) (n : Nat) (f : Fs) (h : Heap) : Prop where
  f0 : f 0 = .ptr (some (d, 0))
  f5 : f 5 = .ptr (some (w, 0))
  ex : ∃ ts p x v A, f 6 = v ∧ IsSl 1 v ts.length (ts.map .str) A ∧ p + n = D.n ∧ x ≤ p ∧ ts.length ≤ p ∧ (ts ++ (D.scan (n + 1) p x).1, (D.scan (n + 1) p x).2) = all ∧
    Own h ((w, .cells [.ptr (some (d, 0)), .int .i64 (x : Nat), .int .i64 (p : Nat), .int .i64 0] .own) :: (BD ++ (A ++ R)))
structure OpQ (w d : Nat) (D : DiskM) (BD R : Blk) (all : List (List UInt8) × Nat × Nat) (o : Out) (f : Fs) (h : Heap) : Prop where
  out : o = .exit 0
  f5 : f 5 = .ptr (some (w, 0))
  ex : ∃ v A, f 6 = v ∧ IsSl 1 v all.1.length (all.1.map .str) A ∧ all.2.1 ≤ D.n ∧ all.2.2 ≤ all.2.1 ∧
    Own h ((w, .cells [.ptr (some (d, 0)), .int .i64 (all.2.2 : Nat), .int .i64 (all.2.1 : Nat), .int .i64 0] .own) :: (BD ++ (A ++ R)))

theorem open_step {T : Type} (hlf : 1000000 ≤ lf) {k : Nat} {BD : Blk} {all : List (List UInt8) × Nat × Nat} (hk : 4 ≤ k) (hD : IsDisk d D BD) (n : Nat) (f : Fs) (h : Heap) (I : OpI w d D BD R all n f h) (K : Out → Fs → Heap → Option T) :
    (∃ o f' h', wal_Open_l1 lf (run ee lf k) K f h = K o f' h' ∧ o ≠ .normal ∧ OpQ w d D BD R all o f' h') ∨ (∃ m f' h', wal_Open_l1 lf (run ee lf k) K f h = K .normal f' h' ∧ m < n ∧ OpI w d D BD R all m f' h') := by
  obtain ⟨h0, h5, ts, p, x, v, A, h6, hA, hp, hx, htp, hall, O⟩ := I
  have hle := hD.le
  have g0 := O.get 0 rfl
  have OD : Own h (BD ++ ((w, _) :: (A ++ R))) := O.perm (perm_c fun a => by simp only [List.count_append, List.count_cons, List.count_nil]; ac_rfl)
  have e1 := wRest (lf := lf) hlf (p := p) hD OD (by omega) k (by omega)
  have hrl := DiskM.restB_length (hD.len OD) p 129
  obtain ⟨h1, G1, K1, e2⟩ := (frame_Get_ok hlf (D.restB p 129) (by omega) x (by omega) h O.ok).at' (show 4 ≤ k by omega)
  have O1 := O.gr G1 K1
  have g1 := O1.get 0 rfl
  unfold wal_Open_l1
  unfold getV at e2
  cases hg : getB (D.restB p 129) x with
  | none =>
    left
    rw [hg] at e2
    have hs : D.scan (n + 1) p x = ([], p, x) := by simp only [DiskM.scan, hg]
    rw [hs, List.append_nil] at hall
    simp only [h0, h5, intK_i, io_lss, io_leq, io_gtr, io_geq, io_eql, io_neq, obind_s, gdP_b, gdE_b, pkK_b, cndV_b, decide_eq_true_eq, decide_eq_false_iff_not, lenS_s, lenL_l, bindVH_s, exK_t, nilV_p, faK_p, refK_s, eqPtr_nn, eqPtr_sn, List.getElem?_cons_zero, List.getElem?_cons_succ, Bool.not_eq_true', bne_false', if_true, if_false, Bool.false_eq_true, cvI_i, Nat.zero_add, Nat.add_zero, ld1_c g0, e1, e2, unK, dUn, Bool.not_false, sameO_i, sameO_b, sameO_t, sameO_p, sameO_l, sameO_m, Bool.and_true, Bool.and_self, cond_t]
    refine ⟨_, _, _, rfl, (fun e => by cases e), rfl, h5, v, A, h6, ?_, ?_, ?_, ?_⟩
    · rw [← hall]; exact hA
    · rw [← hall]; show p ≤ _; omega
    · rw [← hall]; exact hx
    · rw [← hall]; exact O1
  | some s =>
    right
    rw [hg] at e2
    obtain ⟨hs1, hs2⟩ := getB_some hg
    have hsp := sectorsN_pos s.length
    have hsp2 : sectorsN s.length ≤ 129 := by unfold sectorsN; omega
    have hfit : p + sectorsN s.length ≤ D.n := by omega
    have hq : ((sectorsN s.length * 64 : Nat) : Int).tdiv 64 = (sectorsN s.length : Nat) := by
      rw [Int.tdiv_eq_ediv_of_nonneg (by omega)]; omega
    have O2 := O1.new (.cells [.str s] .own)
    have O3 : Own (h1.new (.cells [.str s] .own)) (A ++ ((w, _) :: (BD ++ ((h1.next, .cells [.str s] .own) :: R)))) := O2.perm (perm_c fun a => by simp only [List.count_append, List.count_cons, List.count_nil]; ac_rfl)
    obtain ⟨v', h3, A', e3, O4, hA'⟩ := appL_ok (T0 := T) hA (by omega) (x := .sl (some (h1.next, 0)) 1 1 1 true) (n := 1) (new := [.str s]) rfl (dFirst_sl (Heap.get_new_self _ _) (Nat.le_refl _) (by simp)) rfl rfl (by omega) O3
    have O5 : Own h3 ((w, .cells [.ptr (some (d, 0)), .int .i64 (x : Nat), .int .i64 (p : Nat), .int .i64 0] .own) :: (BD ++ (A' ++ R))) := (O4.perm (L' := (h1.next, .cells [.str s] .own) :: ((w, _) :: (BD ++ (A' ++ R)))) (perm_c fun a => by simp only [List.count_append, List.count_cons, List.count_nil]; ac_rfl)).tail
    have g3 := O5.get 0 rfl
    have O6 := O5.set 0 rfl (.cells [.ptr (some (d, 0)), .int .i64 (x : Nat), .int .i64 ((p + sectorsN s.length : Nat) : Int), .int .i64 0] .own)
    have g6 := O6.get 0 rfl
    have hadd : (p : Int) + ((sectorsN s.length : Nat) : Int) = ((p + sectorsN s.length : Nat) : Int) := by omega
    have hadd2 : (x : Int) + 1 = ((x + 1 : Nat) : Int) := by omega
    simp only [h0, h5, intK_i, io_lss, io_leq, io_gtr, io_geq, io_eql, io_neq, obind_s, gdP_b, gdE_b, pkK_b, cndV_b, decide_eq_true_eq, decide_eq_false_iff_not, lenS_s, lenL_l, bindVH_s, exK_t, nilV_p, faK_p, refK_s, eqPtr_nn, eqPtr_sn, List.getElem?_cons_zero, List.getElem?_cons_succ, Bool.not_eq_true', bne_false', if_true, if_false, Bool.false_eq_true, cvI_i, Nat.zero_add, Nat.add_zero, ld1_c g0, e1, e2, unK, dUn, Bool.not_true, sameO_i, sameO_b, sameO_t, sameO_p, sameO_l, sameO_m, Bool.and_true, Bool.and_self, cond_t, fil1, V.one, List.length_singleton, Nat.blt, Nat.ble, newS, List.set_cons_zero, h6, e3, ld1_c g3, io_quo, show ¬ ((64 : Int) = 0) by decide, hq,
      wrap_i64 (x := ((sectorsN s.length : Nat) : Int)) (by omega) (by omega), io_add, hadd, wrap_i64 (x := ((p + sectorsN s.length : Nat) : Int)) (by omega) (by omega)]
    rw [st1_c g3 rfl (by simp) rfl]
    simp only [List.set_cons_zero, List.set_cons_succ, ld1_c g6, intK_i, io_lss, io_leq, io_gtr, io_geq, io_eql, io_neq, obind_s, gdP_b, gdE_b, pkK_b, cndV_b, decide_eq_true_eq, decide_eq_false_iff_not, lenS_s, lenL_l, bindVH_s, exK_t, nilV_p, faK_p, refK_s, eqPtr_nn, eqPtr_sn, List.getElem?_cons_zero, List.getElem?_cons_succ, Bool.not_eq_true', bne_false', if_true, if_false, Bool.false_eq_true, cvI_i, Nat.zero_add, Nat.add_zero, io_add, hadd2, wrap_i64 (x := ((x + 1 : Nat) : Int)) (by omega) (by omega)]
    rw [st1_c g6 rfl (by simp) rfl]
    simp only [List.set_cons_zero, List.set_cons_succ]
    have O7 := O6.set 0 rfl (.cells [.ptr (some (d, 0)), .int .i64 ((x + 1 : Nat) : Int), .int .i64 ((p + sectorsN s.length : Nat) : Int), .int .i64 0] .own)
    obtain ⟨q, rfl⟩ : ∃ q, n = q + sectorsN s.length := ⟨n - sectorsN s.length, by omega⟩
    refine ⟨q, _, _, rfl, by omega, h0, h5, ts ++ [s], p + sectorsN s.length, x + 1, v', A', rfl, ?_, by omega, by omega, by simp; omega, ?_, O7⟩
    · simpa using hA'
    · rw [← hall]
      have hstop := D.scan_stop (hD.len OD)
      have hs : D.scan (q + sectorsN s.length + 1) p x = (s :: (D.scan (q + sectorsN s.length) (p + sectorsN s.length) (x + 1)).1, (D.scan (q + sectorsN s.length) (p + sectorsN s.length) (x + 1)).2) := by simp only [DiskM.scan, hg]
      rw [hs, hstop (q + sectorsN s.length) (q + 1) _ _ (by omega) (by omega)]
      simp
end
end Go.Zs
/- wal: what Open gives; a new disk. -/
namespace Go.Zs
open Go Go.Proofs

section
variable {h h' : Heap} {d sy m w : Nat} {D D' : DiskM} {X : WalM} {B R : Blk} {lf : Nat}

def DiskM.all (D : DiskM) : List (List UInt8) × Nat × Nat := D.scan (D.n + 1) 0 0
/-- The log that Open makes of a disk. -/
def DiskM.opened (D : DiskM) : WalM := WalM.clean ⟨D, D.all.2.2, D.all.2.1, 0⟩

theorem wOpen (hlf : 1000000 ≤ lf) {BD : Blk} (hD : IsDisk d D BD) : Ct ee lf n_wal_Open 6 [.ptr (some (d, 0))] BD fun v B' => ∃ w sv W A, v = .tup [.ptr (some (w, 0)), sv, .int .i64 0] ∧ B' = W ++ A ∧ IsWal d w D.opened W ∧ IsSl 1 sv D.all.1.length (D.all.1.map .str) A := by
  refine ct_of (G := fun call h => wal_Open lf call _ h) (fun k h r => wal_Open_run) fun k R h hk O => ?_
  have hle := hD.le
  unfold wal_Open
  simp only [intK_i, io_lss, io_leq, io_gtr, io_geq, io_eql, io_neq, obind_s, gdP_b, gdE_b, pkK_b, cndV_b, decide_eq_true_eq, decide_eq_false_iff_not, lenS_s, lenL_l, bindVH_s, exK_t, nilV_p, faK_p, refK_s, eqPtr_nn, eqPtr_sn, List.getElem?_cons_zero, List.getElem?_cons_succ, Bool.not_eq_true', bne_false', if_true, if_false, Bool.false_eq_true, cvI_i, Nat.zero_add, Nat.add_zero, eq_self, fil1_i, one_ptr, one_int, one_str, one_bool, one_sl, one_map, one_fn, List.length_cons, List.length_nil, Nat.reduceAdd, Nat.reduceLT, List.set_cons_zero, List.set_cons_succ, boxA_a, box1_s, newC_s, newS_s, newM_s]
  have O1 := O.new (.cells [.ptr (some (d, 0)), .int .i64 0, .int .i64 0, .int .i64 0] .own)
  generalize h.next = w at O1 ⊢
  generalize h.new _ = h1 at O1 ⊢
  generalize hF : updL _ _ _ = F
  obtain ⟨o, f', h2, e2, _, rfl, q5, v, A, q6, hA, hp, hx, O2⟩ := iterK_rule (fun n f h I K => open_step (T := V × Heap) (w := w) (R := R) (all := D.all) hlf (show 4 ≤ k by omega) hD n f h I K) lf D.n F h1
    (fun o f h => blkK 0 o (wal_Open_j1 lf (run ee lf k) f (f 5) (f 6) h) (seqK o (wal_Open_j1 lf (run ee lf k) f (f 5) (f 6) h) (kRet ee [.tmp 2, .tmp 3, .tmp 4] o f h))) (by omega)
    ⟨by rw [← hF]; rfl, by rw [← hF]; rfl, [], 0, 0, .sl none 0 0 0 true, [], by rw [← hF]; rfl, IsSl.nil 1 0, by omega, by omega, by simp, rfl, O1⟩
  rw [e2, blkK_e, if_pos rfl, q5, q6]
  unfold wal_Open_j1
  have hW : IsWal d w ⟨D, D.all.2.2, D.all.2.1, 0⟩ ((w, .cells [.ptr (some (d, 0)), .int .i64 (D.all.2.2 : Nat), .int .i64 (D.all.2.1 : Nat), .int .i64 0] .own) :: BD) := ⟨BD, rfl, hD, ⟨hp, hx⟩⟩
  obtain ⟨u, h3, B3, e3, O3, rfl, b3⟩ := wClean hlf hW k (A ++ R) h2 (by omega) (O2.perm (perm_c fun a => by simp only [List.count_append, List.count_cons, List.count_nil]; ac_rfl))
  simp only [e3, intK_i, io_lss, io_leq, io_gtr, io_geq, io_eql, io_neq, obind_s, gdP_b, gdE_b, pkK_b, cndV_b, decide_eq_true_eq, decide_eq_false_iff_not, lenS_s, lenL_l, bindVH_s, exK_t, nilV_p, faK_p, refK_s, eqPtr_nn, eqPtr_sn, List.getElem?_cons_zero, List.getElem?_cons_succ, Bool.not_eq_true', bne_false', if_true, if_false, Bool.false_eq_true, cvI_i, Nat.zero_add, Nat.add_zero]
  exact ⟨_, h3, B3 ++ A, rfl, O3.perm (perm_c fun a => by simp only [List.count_append, List.count_cons, List.count_nil]; ac_rfl), w, v, B3, A, rfl, rfl, b3, hA⟩

/-- What is copied into a slice's beginning. -/
structure RpI (n : Nat) (e : V) (id : Nat) (R : Blk) (r : Nat) (f : Fs) (h : Heap) : Prop where
  f7 : f 7 = .sl (some (id, 0)) n n 1 true
  ex : ∃ m : Nat, 1 ≤ m ∧ m + r = n ∧ f 8 = .int .i64 (m : Nat) ∧ Own h ((id, .cells (List.replicate m e ++ List.replicate r (.str [])) .own) :: R)

theorem tcopy : (#[t_s_string, t_s_string][0]?).bind ee.P.underlying = some (.slice 9) := by kernel_rfl
theorem tsize : sizeB ee 9 = some 1 := by kernel_rfl

theorem copy_ok {h : Heap} {i o len lo es len' lo' es' o' n : Nat} {ex ex' : Bool} {cs cs' : List V} {kd kd' : Kd} {j : Nat} (hd : h.get i = some (.cells cs kd)) (hs : h.get j = some (.cells cs' kd')) (hn : n = min len' len) (hn0 : n ≠ 0) (hk : kd.wr = true)
    (h1 : o' + n ≤ cs'.length) (h2 : o + n ≤ cs.length) (hv : ((cs'.drop o').take n).all V.one = true) :
    dBuiltin ee .copy #[t_s_string, t_s_string] [.sl (some (i, o)) len lo es ex, .sl (some (j, o')) len' lo' es' ex'] h = some (.int .i64 n, h.set i (.cells (splice cs o ((cs'.drop o').take n)) kd)) := by
  show dCopy ee #[t_s_string, t_s_string] (.sl (some (i, o)) len lo es ex) (.sl (some (j, o')) len' lo' es' ex') h = _
  unfold dCopy
  rw [tcopy]
  simp only [tsize, Option.bind_some, dLenOf, ← hn]
  have hl : ((cs'.drop o').take n).length = n := by rw [List.length_take, List.length_drop]; omega
  rw [dFirst_sl hs (by omega) (by rw [Nat.mul_one]; exact h1), Option.bind_some, Nat.mul_one, hl, T.beq_false hn0, cond_false, storeCells_ok hd hk (by rw [hl]; exact h2) hv]
  rfl

theorem slL_lo {T : Type} {s i len lo : Nat} {ex : Bool} {k : IntKind} {a : Nat} (h1 : a ≤ len) (h2 : len ≤ lo) (K : V → Option T) : slL s (.sl (some (i, 0)) len lo s ex) (some (.int k (a : Int))) none K = K (.sl (some (i, 0 + a * s)) (len - a) (lo - a) s ex) := by
  show (bif Nat.beq s s then (some len).bind fun b => (bif Nat.ble a b then some a else none).bind fun a => K (.sl (some (i, 0 + a * s)) (b - a) (lo - a) s ex) else none) = _
  rw [Nat.beq_refl, cond_true, Option.bind_some, Nat.ble_eq_true_of_le h1]; rfl
theorem slL_hi {T : Type} {s i len lo : Nat} {ex : Bool} {k : IntKind} {b : Nat} (h1 : b ≤ lo) (K : V → Option T) : slL s (.sl (some (i, 0)) len lo s ex) none (some (.int k (b : Int))) K = K (.sl (some (i, 0)) b lo s ex) := by
  show (bif Nat.beq s s then (bif Nat.ble b lo then some b else none).bind fun b => (some 0).bind fun a => K (.sl (some (i, 0 + a * s)) (b - a) (lo - a) s ex) else none) = _
  rw [Nat.beq_refl, cond_true, Nat.ble_eq_true_of_le h1]
  simp

theorem repeat_step {T : Type} {n : Nat} {e : V} {id k : Nat} (hn : n ≤ 1024) (he : e.one = true) (r : Nat) (f : Fs) (h : Heap) (I : RpI n e id R r f h) (K : Out → Fs → Heap → Option T) :
    (∃ o f' h', slices_Repeat_string_string_l1 lf (run ee lf k) K f h = K o f' h' ∧ o ≠ .normal ∧ o = .exit 0 ∧ f' 7 = .sl (some (id, 0)) n n 1 true ∧ Own h' ((id, .cells (List.replicate n e) .own) :: R)) ∨
    (∃ m f' h', slices_Repeat_string_string_l1 lf (run ee lf k) K f h = K .normal f' h' ∧ m < r ∧ RpI n e id R m f' h') := by
  obtain ⟨h7, m, hm, hr, h8, O⟩ := I
  have g0 := O.get 0 rfl
  unfold slices_Repeat_string_string_l1
  cases r with
  | zero =>
    left
    obtain rfl : m = n := by omega
    simp only [h7, h8, intK_i, io_lss, io_leq, io_gtr, io_geq, io_eql, io_neq, obind_s, gdP_b, gdE_b, pkK_b, cndV_b, decide_eq_true_eq, decide_eq_false_iff_not, lenS_s, lenL_l, bindVH_s, exK_t, nilV_p, faK_p, refK_s, eqPtr_nn, eqPtr_sn, List.getElem?_cons_zero, List.getElem?_cons_succ, Bool.not_eq_true', bne_false', if_true, if_false, Bool.false_eq_true, cvI_i, Nat.zero_add, Nat.add_zero, show ¬ ((m : Int) < m) by omega]
    exact ⟨_, _, _, rfl, (fun e => by cases e), rfl, h7, by simpa using O⟩
  | succ r =>
    right
    have hc : min m (n - m) ≠ 0 := by omega
    have ec := copy_ok (h := h) (i := id) (o := m * 1) (len := n - m) (lo := n - m) (es := 1) (ex := true) (j := id) (o' := 0) (len' := m) (lo' := n) (es' := 1) (ex' := true) (n := min m (n - m)) g0 g0 rfl hc rfl (by simp; omega) (by simp; omega)
      (by
        rw [List.all_eq_true]
        intro v hv
        have := List.mem_of_mem_drop (List.mem_of_mem_take hv)
        rcases List.mem_append.1 this with h1 | h1
        · rw [List.eq_of_mem_replicate h1]; exact he
        · rw [List.eq_of_mem_replicate h1]; rfl)
    have hsp : splice (List.replicate m e ++ List.replicate (r + 1) (V.str [])) (m * 1) (((List.replicate m e ++ List.replicate (r + 1) (V.str [])).drop 0).take (min m (n - m))) = List.replicate (m + min m (n - m)) e ++ List.replicate (r + 1 - min m (n - m)) (.str []) := by
      have e1 : ((List.replicate m e ++ List.replicate (r + 1) (V.str [])).drop 0).take (min m (n - m)) = List.replicate (min m (n - m)) e := by
        rw [List.drop_zero, List.take_append_of_le_length (by simp; omega), List.take_replicate, show min (min m (n - m)) m = min m (n - m) by omega]
      rw [e1]
      unfold splice
      rw [List.take_append_of_le_length (by simp), List.take_replicate, List.drop_append, List.drop_eq_nil_of_le (by simp), List.length_replicate, List.length_replicate, List.nil_append, List.drop_replicate, ← List.replicate_append_replicate,
        show min (m * 1) m = m by omega, show r + 1 - (m * 1 + min m (n - m) - m) = r + 1 - min m (n - m) by omega]
    rw [hsp] at ec
    have hadd : (m : Int) + ((min m (n - m) : Nat) : Int) = ((m + min m (n - m) : Nat) : Int) := by omega
    simp only [h7, h8, intK_i, io_lss, io_leq, io_gtr, io_geq, io_eql, io_neq, obind_s, gdP_b, gdE_b, pkK_b, cndV_b, decide_eq_true_eq, decide_eq_false_iff_not, lenS_s, lenL_l, bindVH_s, exK_t, nilV_p, faK_p, refK_s, eqPtr_nn, eqPtr_sn, List.getElem?_cons_zero, List.getElem?_cons_succ, Bool.not_eq_true', bne_false', if_true, if_false, Bool.false_eq_true, cvI_i, Nat.zero_add, Nat.add_zero, show ((m : Int) < n) by omega, slL_lo (show m ≤ n by omega) (Nat.le_refl n), slL_hi (show m ≤ n by omega), ec, io_add, hadd, wrap_i64 (x := ((m + min m (n - m) : Nat) : Int)) (by omega) (by omega), sameO_i, sameO_b, sameO_t, sameO_p, sameO_l, sameO_m, Bool.and_true, Bool.and_self, cond_t]
    refine ⟨r + 1 - min m (n - m), _, _, rfl, by omega, h7, m + min m (n - m), by omega, by omega, rfl, ?_⟩
    exact O.set 0 rfl _
end
end Go.Zs
/- a new disk. -/
namespace Go.Zs
open Go Go.Proofs

theorem wrap_u64 {x : Int} (h1 : 0 ≤ x) (h2 : x < 18446744073709551616) : IntKind.u64.wrap x = x := by
  unfold IntKind.wrap
  simp [IntKind.bits, IntKind.signed]
  omega

section
variable {h h' : Heap} {d sy m w : Nat} {D D' : DiskM} {X : WalM} {B R : Blk} {lf : Nat}

theorem mul64_one (n : Nat) (hn : n ≤ 1024) (h : Heap) : Cm ee lf n_math_bits_Mul64 1 [.int .u64 1, .int .u64 n] h (.tup [.int .u64 0, .int .u64 n]) := by
  refine cm_of (d := 0) (G := fun call => math_bits_Mul64 lf call _ _ h) (fun k r => math_bits_Mul64_run) fun k hk => ?_
  unfold math_bits_Mul64
  have a1 : intOp .and .u64 (1 : Int) .u64 (4294967295 : Int) = some (.int .u64 (1 : Nat)) := by
    have := io_and .u64 1 4294967295 (by decide) (by decide)
    exact this
  have a2 : intOp .shr .u64 (1 : Int) .u64 (32 : Int) = some (.int .u64 (0 : Nat)) := by
    have := io_shr .u64 .u64 1 32 (by decide)
    exact this
  have a3 : intOp .and .u64 (n : Int) .u64 (4294967295 : Int) = some (.int .u64 (n : Nat)) := by
    have := io_and .u64 n 4294967295 (by show n < 18446744073709551616; omega) (by decide)
    have e : n &&& 4294967295 = n := by
      have := Nat.and_two_pow_sub_one_eq_mod n 32
      rw [show (2 : Nat) ^ 32 - 1 = 4294967295 from rfl] at this
      rw [this]; exact Nat.mod_eq_of_lt (by omega)
    rw [e] at this
    exact this
  have a4 : intOp .shr .u64 (n : Int) .u64 (32 : Int) = some (.int .u64 (0 : Nat)) := by
    have := io_shr .u64 .u64 n 32 (by decide)
    rw [show n / 2 ^ 32 = 0 from Nat.div_eq_of_lt (by omega)] at this
    exact this
  have a5 : intOp .and .u64 ((0 : Nat) : Int) .u64 (4294967295 : Int) = some (.int .u64 (0 : Nat)) := io_and .u64 0 4294967295 (by decide) (by decide)
  have a6 : intOp .shr .u64 ((0 : Nat) : Int) .u64 (32 : Int) = some (.int .u64 (0 : Nat)) := io_shr .u64 .u64 0 32 (by decide)
  have w0 : IntKind.u64.wrap ((n : Nat) : Int) = (n : Nat) := wrap_u64 (by omega) (by omega)
  have w1 : IntKind.u64.wrap 0 = 0 := wrap_u64 (by omega) (by omega)
  have z : ((0 : Nat) : Int) = 0 := rfl
  have o : ((1 : Nat) : Int) = 1 := rfl
  rw [z] at a5 a6
  simp only [intK_i, io_lss, io_leq, io_gtr, io_geq, io_eql, io_neq, obind_s, gdP_b, gdE_b, pkK_b, cndV_b, decide_eq_true_eq, decide_eq_false_iff_not, lenS_s, lenL_l, bindVH_s, exK_t, nilV_p, faK_p, refK_s, eqPtr_nn, eqPtr_sn, List.getElem?_cons_zero, List.getElem?_cons_succ, Bool.not_eq_true', bne_false', if_true, if_false, Bool.false_eq_true, cvI_i, Nat.zero_add, Nat.add_zero, a1, a2, a3, a4, a5, a6, io_mul, io_add, z, o, Int.one_mul, Int.zero_mul, Int.mul_zero, Int.zero_add, Int.add_zero, w0, w1, sameO_i, sameO_b, sameO_t, sameO_p, sameO_l, sameO_m, Bool.and_true, Bool.and_self, cond_t]
  rfl

theorem mul_one (n : Nat) (hn : n ≤ 1024) (h : Heap) : Cm ee lf n_math_bits_Mul 2 [.int .u64 1, .int .u64 n] h (.tup [.int .u64 0, .int .u64 n]) := by
  refine cm_of (d := 1) (G := fun call => math_bits_Mul lf call _ _ h) (fun k r => math_bits_Mul_run) fun k hk => ?_
  unfold math_bits_Mul
  simp only [intK_i, io_lss, io_leq, io_gtr, io_geq, io_eql, io_neq, obind_s, gdP_b, gdE_b, pkK_b, cndV_b, decide_eq_true_eq, decide_eq_false_iff_not, lenS_s, lenL_l, bindVH_s, exK_t, nilV_p, faK_p, refK_s, eqPtr_nn, eqPtr_sn, List.getElem?_cons_zero, List.getElem?_cons_succ, Bool.not_eq_true', bne_false', if_true, if_false, Bool.false_eq_true, cvI_i, Nat.zero_add, Nat.add_zero, mul64_one (lf := lf) n hn h k hk]
  rfl

theorem repeat_ok (hlf : 1000000 ≤ lf) {e : V} (he : e.one = true) {j n : Nat} (h1 : 1 ≤ n) (hn : n ≤ 1024) : Ct ee lf n_slices_Repeat_string_string 3 [.sl (some (j, 0)) 1 1 1 true, .int .i64 n] [(j, .cells [e] .own)]
    fun v B' => ∃ id, v = .sl (some (id, 0)) n n 1 true ∧ B' = [(id, .cells (List.replicate n e) .own)] := by
  refine ct_of (G := fun call h => slices_Repeat_string_string lf call _ _ h) (fun k h r => slices_Repeat_string_string_run) fun k R h hk O => ?_
  unfold slices_Repeat_string_string slices_Repeat_string_string_j1 slices_Repeat_string_string_j2
  have w0 : IntKind.u64.wrap ((1 : Nat) : Int) = 1 := wrap_u64 (by omega) (by omega)
  have w1 : IntKind.u64.wrap ((n : Nat) : Int) = (n : Nat) := wrap_u64 (by omega) (by omega)
  have w2 : IntKind.i64.wrap ((n : Nat) : Int) = (n : Nat) := wrap_i64 (by omega) (by omega)
  have e1 := mul_one (lf := lf) n hn h k hk
  simp only [intK_i, io_lss, io_leq, io_gtr, io_geq, io_eql, io_neq, obind_s, gdP_b, gdE_b, pkK_b, cndV_b, decide_eq_true_eq, decide_eq_false_iff_not, lenS_s, lenL_l, bindVH_s, exK_t, nilV_p, faK_p, refK_s, eqPtr_nn, eqPtr_sn, List.getElem?_cons_zero, List.getElem?_cons_succ, Bool.not_eq_true', bne_false', if_true, if_false, Bool.false_eq_true, cvI_i, Nat.zero_add, Nat.add_zero, show ¬ (n : Int) < 0 by omega, w0, w1, e1, show ¬ (0 : Int) < 0 by omega, decide_false, show ¬ (9223372036854775807 : Int) < n by omega, not_false_eq_true, w2]
  rw [mkS_i 16 1 _ _ _ _ _ _ _ (Nat.le_refl _) (by omega) (by omega), copies_one]
  have O1 := O.new (.cells (List.replicate n (V.str [])) .own)
  generalize h.next = id at O1 ⊢
  generalize h.new _ = h1' at O1 ⊢
  have g0 := O1.get 0 rfl
  have g1 := O1.get 1 rfl
  have ec := copy_ok (len := n) (lo := n) (es := 1) (ex := true) (o := 0) (o' := 0) (len' := 1) (lo' := 1) (es' := 1) (ex' := true) (n := 1) g0 g1 (by omega) (by omega) rfl (by simp) (by simp; omega) (by simp [he])
  have hsp : splice (List.replicate n (V.str [])) 0 (([e].drop 0).take 1) = List.replicate 1 e ++ List.replicate (n - 1) (.str []) := by
    unfold splice
    simp
  rw [hsp] at ec
  simp only [ec, intK_i, io_lss, io_leq, io_gtr, io_geq, io_eql, io_neq, obind_s, gdP_b, gdE_b, pkK_b, cndV_b, decide_eq_true_eq, decide_eq_false_iff_not, lenS_s, lenL_l, bindVH_s, exK_t, nilV_p, faK_p, refK_s, eqPtr_nn, eqPtr_sn, List.getElem?_cons_zero, List.getElem?_cons_succ, Bool.not_eq_true', bne_false', if_true, if_false, Bool.false_eq_true, cvI_i, Nat.zero_add, Nat.add_zero]
  have O2 := O1.set 0 rfl (.cells (List.replicate 1 e ++ List.replicate (n - 1) (.str [])) .own)
  generalize h1'.set _ _ = h2 at O2 ⊢
  generalize hF : updL _ _ _ = F
  obtain ⟨o, f', h3, e2, _, rfl, q7, O3⟩ := iterK_rule (fun r f h I K => repeat_step (T := V × Heap) (lf := lf) (k := k) (R := (j, .cells [e] .own) :: R) (id := id) hn he r f h I K) lf (n - 1) F h2
    (fun o f h => blkK 0 o (slices_Repeat_string_string_j3 lf (run ee lf k) f (f 7) h) (seqK o (slices_Repeat_string_string_j3 lf (run ee lf k) f (f 7) h) (kRet ee [.tmp 4] o f h))) (by omega)
    ⟨by rw [← hF]; rfl, 1, by omega, by omega, by rw [← hF]; rfl, O2⟩
  rw [e2, blkK_e, if_pos rfl, q7]
  unfold slices_Repeat_string_string_j3
  refine ⟨_, h3, [(id, .cells (List.replicate n e) .own)], rfl, ?_, id, rfl, rfl⟩
  exact (O3.perm (L' := (j, .cells [e] .own) :: ((id, .cells (List.replicate n e) .own) :: R)) (.swap _ _ _)).tail

/-- An empty disk. -/
def DiskM.zero (n : Nat) : DiskM := ⟨List.replicate n zeroB64, []⟩
theorem DiskM.zero_n (n : Nat) : (DiskM.zero n).n = n := by simp [DiskM.zero, DiskM.n]
theorem DiskM.zero_at {n i : Nat} (hi : i < n) : (DiskM.zero n).at i = zeroB64 := by
  simp [DiskM.zero, DiskM.at, hi]

theorem dNew (hlf : 1000000 ≤ lf) {n : Nat} (h1 : 1 ≤ n) (hn : n ≤ 1024) : Ct ee lf n_disk_New 4 [.int .i64 n] [] fun v B' => ∃ d, v = .tup [.ptr (some (d, 0)), .int .i64 0] ∧ IsDisk d (DiskM.zero n) B' := by
  refine ct_of (G := fun call h => disk_New lf call _ h) (fun k h r => disk_New_run) fun k R h hk O => ?_
  unfold disk_New
  simp only [intK_i, io_lss, io_leq, io_gtr, io_geq, io_eql, io_neq, obind_s, gdP_b, gdE_b, pkK_b, cndV_b, decide_eq_true_eq, decide_eq_false_iff_not, lenS_s, lenL_l, bindVH_s, exK_t, nilV_p, faK_p, refK_s, eqPtr_nn, eqPtr_sn, List.getElem?_cons_zero, List.getElem?_cons_succ, Bool.not_eq_true', bne_false', if_true, if_false, Bool.false_eq_true, cvI_i, Nat.zero_add, Nat.add_zero, show ¬ (n : Int) < 1 by omega, decide_false, show ¬ (1024 : Int) < n by omega]
  rw [show (V.int .i64 64) = .int .i64 ((64 : Nat) : Int) from rfl, mkS_i 1 1 _ _ _ _ _ _ _ (Nat.le_refl _) (by omega) (by omega)]
  have hz : (copies [V.int .u8 0] 64) = bytesV zeroB64 := by rw [copies_one, zeroB64, bytesV_zeros]
  rw [cvBS_c (s := zeroB64) (Heap.get_new_self _ _) (fun _ => by rw [hz, bytesV_length]; simp [zeroB64]) (fun _ => by
    rw [hz, List.drop_zero, List.take_of_length_le (by rw [bytesV_length]; simp [zeroB64])]
    exact bytesOfVs_map _) (fun h0 => by cases h0)]
  have O1 : Own _ R := (O.new (.cells (copies [V.int .u8 0] 64) .own)).tail
  generalize h.new _ = h1' at O1 ⊢
  simp only [intK_i, io_lss, io_leq, io_gtr, io_geq, io_eql, io_neq, obind_s, gdP_b, gdE_b, pkK_b, cndV_b, decide_eq_true_eq, decide_eq_false_iff_not, lenS_s, lenL_l, bindVH_s, exK_t, nilV_p, faK_p, refK_s, eqPtr_nn, eqPtr_sn, List.getElem?_cons_zero, List.getElem?_cons_succ, Bool.not_eq_true', bne_false', if_true, if_false, Bool.false_eq_true, cvI_i, Nat.zero_add, Nat.add_zero, eq_self, fil1_i, one_ptr, one_int, one_str, one_bool, one_sl, one_map, one_fn, List.length_cons, List.length_nil, Nat.reduceAdd, Nat.reduceLT, List.set_cons_zero, List.set_cons_succ, boxA_a, box1_s, newC_s, newS_s, newM_s]
  have O2 := O1.new (.cells [.str zeroB64] .own)
  generalize h1'.next = j at O2 ⊢
  generalize h1'.new _ = h2 at O2 ⊢
  obtain ⟨v, h3, B3, e3, O3, id, rfl, rfl⟩ := repeat_ok (lf := lf) hlf (e := .str zeroB64) rfl (j := j) h1 hn k R h2 hk O2
  simp only [e3, intK_i, io_lss, io_leq, io_gtr, io_geq, io_eql, io_neq, obind_s, gdP_b, gdE_b, pkK_b, cndV_b, decide_eq_true_eq, decide_eq_false_iff_not, lenS_s, lenL_l, bindVH_s, exK_t, nilV_p, faK_p, refK_s, eqPtr_nn, eqPtr_sn, List.getElem?_cons_zero, List.getElem?_cons_succ, Bool.not_eq_true', bne_false', if_true, if_false, Bool.false_eq_true, cvI_i, Nat.zero_add, Nat.add_zero, eq_self, fil1_i, one_ptr, one_int, one_str, one_bool, one_sl, one_map, one_fn, List.length_cons, List.length_nil, Nat.reduceAdd, Nat.reduceLT, List.set_cons_zero, List.set_cons_succ, boxA_a, box1_s, newC_s, newS_s, newM_s]
  have O4 := O3.new (.map [] [] 0)
  generalize h3.next = m at O4 ⊢
  generalize h3.new _ = h4 at O4 ⊢
  have O5 := O4.new (.cells [.sl (some (id, 0)) n n 1 true, .map (some m), .int .i64 0] .own)
  generalize h4.next = d at O5 ⊢
  generalize h4.new _ = h5 at O5 ⊢
  refine ⟨_, h5, [(d, _), (id, _), (m, _)], rfl, O5.perm (perm_c fun a => by simp only [List.count_append, List.count_cons, List.count_nil]; ac_rfl), d, rfl, id, m, [], 0, ?_, ?_⟩
  · unfold DiskB
    rw [DiskM.zero_n]
    simp [DiskM.zero, encM]
  · refine ⟨rfl, (fun b hb => absurd hb List.not_mem_nil), List.nodup_nil, List.nodup_nil, (fun p hp => absurd hp List.not_mem_nil), by rw [DiskM.zero_n]; exact hn, fun s hs => ?_, (fun p hp => absurd hp List.not_mem_nil)⟩
    rw [List.eq_of_mem_replicate hs]; simp [zeroB64]
end
end Go.Zs
