/- slices.Sorted over maps.Keys: the kit's contract, laid at this seat. -/
import Derived.Test.YtkgglkoooldodaaZsI6
import Derived.Test.YtkgglkoooldodaaProg
set_option linter.unusedVariables false
set_option linter.unusedSimpArgs false
set_option linter.deprecated false
namespace Go.Proofs
open Go.RowKit Go.Maps Go.Sort Go.Shelf

def keysA_ren : Go.Shelf.Ren := ⟨fun | 7 => 50 | 10 => 64 | n => n, fun | 23 => 61 | 26 => 3 | 3 => 9 | 28 => 93 | 0 => 0 | 27 => 92 | 33 => 32 | 4 => 4 | n => n, fun | n => n⟩
theorem keysA : Go.Proofs.SlLaysZI.n7 Try.prog keysA_ren := {
  mixed := by kernel_rfl,
  f7 := ⟨Try.f50.name, by decide, Try.func50.trans (congrArg some (by kernel_rfl))⟩,
  f10 := ⟨Try.f64.name, by decide, Try.func64.trans (congrArg some (by kernel_rfl))⟩,
  t0 := Try.underlying0,
  a0 := Try.isAgg0,
  z0 := Try.sizeOf0,
  v0 := Try.zeroValue0,
  t4 := Try.underlying4,
  a4 := Try.isAgg4,
  z4 := Try.sizeOf4,
  v4 := Try.zeroValue4,
  t23 := Try.underlying61,
  a23 := Try.isAgg61,
  z23 := Try.sizeOf61,
  v23 := Try.zeroValue61,
  t26 := Try.underlying3,
  a26 := Try.isAgg3,
  z26 := Try.sizeOf3,
  v26 := Try.zeroValue3,
  t27 := Try.underlying92,
  a27 := Try.isAgg92,
  z27 := Try.sizeOf92,
  v27 := Try.zeroValue92,
  t28 := Try.underlying93,
  a28 := Try.isAgg93,
  z28 := Try.sizeOf93,
  v28 := Try.zeroValue93,
  t33 := Try.underlying32,
  a33 := Try.isAgg32,
  z33 := Try.sizeOf32,
  v33 := Try.zeroValue32 }
def sortedA_ren : Go.Shelf.Ren := ⟨fun | 6 => 49 | 8 => 62 | 9 => 63 | 11 => 72 | 13 => 74 | 12 => 73 | 23 => 87 | 24 => 88 | 14 => 78 | 15 => 79 | 16 => 80 | 17 => 81 | 18 => 82 | 19 => 83 | 20 => 84 | 21 => 85 | 22 => 86 | 25 => 89 | 26 => 90 | 27 => 91 | 28 => 92 | 29 => 93 | 30 => 94 | 31 => 95 | n => n, fun | 26 => 3 | 28 => 93 | 24 => 90 | 0 => 0 | 3 => 3 | 37 => 95 | 48 => 107 | 50 => 110 | 4 => 4 | 40 => 120 | 39 => 119 | 45 => 124 | 5 => 5 | 9 => 9 | 51 => 128 | 55 => 132 | 57 => 134 | 58 => 135 | 33 => 32 | n => n, fun | n => n⟩
theorem sortedA : Go.Proofs.SlLaysZI.n6 Try.prog sortedA_ren := {
  mixed := by kernel_rfl,
  f6 := ⟨Try.f49.name, by decide, Try.func49.trans (congrArg some (by kernel_rfl))⟩,
  f8 := ⟨Try.f62.name, by decide, Try.func62.trans (congrArg some (by kernel_rfl))⟩,
  f11 := ⟨Try.f72.name, by decide, Try.func72.trans (congrArg some (by kernel_rfl))⟩,
  t0 := Try.underlying0,
  a0 := Try.isAgg0,
  z0 := Try.sizeOf0,
  v0 := Try.zeroValue0,
  t24 := Try.underlying90,
  a24 := Try.isAgg90,
  z24 := Try.sizeOf90,
  v24 := Try.zeroValue90,
  t26 := Try.underlying3,
  a26 := Try.isAgg3,
  z26 := Try.sizeOf3,
  v26 := Try.zeroValue3,
  t28 := Try.underlying93,
  a28 := Try.isAgg93,
  z28 := Try.sizeOf93,
  v28 := Try.zeroValue93,
  i26 := by kernel_rfl }
def sortA_ren : Go.Shelf.Ren := ⟨fun | 5 => 63 | 8 => 74 | 7 => 73 | 19 => 87 | 20 => 88 | 10 => 78 | 11 => 79 | 12 => 80 | 13 => 81 | 14 => 82 | 15 => 83 | 16 => 84 | 17 => 85 | 18 => 86 | 30 => 89 | 31 => 90 | 32 => 91 | 33 => 92 | 34 => 93 | 35 => 94 | 40 => 95 | n => n, fun | 23 => 90 | 25 => 3 | 3 => 3 | 32 => 95 | 22 => 90 | 0 => 0 | 44 => 107 | 46 => 110 | 4 => 4 | 36 => 120 | 35 => 119 | 41 => 124 | 5 => 5 | 9 => 9 | 53 => 128 | 57 => 132 | 63 => 134 | 64 => 135 | n => n, fun | n => n⟩
theorem sortA : Go.Proofs.SlLaysM.n5 Try.prog sortA_ren := {
  mixed := by kernel_rfl,
  f5 := ⟨Try.f63.name, by decide, Try.func63.trans (congrArg some (by kernel_rfl))⟩,
  f7 := ⟨Try.f73.name, by decide, Try.func73.trans (congrArg some (by kernel_rfl))⟩,
  f8 := Try.func74.trans (congrArg some (by kernel_rfl)),
  f10 := ⟨Try.f78.name, by decide, Try.func78.trans (congrArg some (by kernel_rfl))⟩,
  f11 := ⟨Try.f79.name, by decide, Try.func79.trans (congrArg some (by kernel_rfl))⟩,
  f12 := ⟨Try.f80.name, by decide, Try.func80.trans (congrArg some (by kernel_rfl))⟩,
  f13 := ⟨Try.f81.name, by decide, Try.func81.trans (congrArg some (by kernel_rfl))⟩,
  f14 := ⟨Try.f82.name, by decide, Try.func82.trans (congrArg some (by kernel_rfl))⟩,
  f15 := ⟨Try.f83.name, by decide, Try.func83.trans (congrArg some (by kernel_rfl))⟩,
  f16 := ⟨Try.f84.name, by decide, Try.func84.trans (congrArg some (by kernel_rfl))⟩,
  f17 := ⟨Try.f85.name, by decide, Try.func85.trans (congrArg some (by kernel_rfl))⟩,
  f18 := ⟨Try.f86.name, by decide, Try.func86.trans (congrArg some (by kernel_rfl))⟩,
  f19 := Try.func87.trans (congrArg some (by kernel_rfl)),
  f20 := Try.func88.trans (congrArg some (by kernel_rfl)),
  f30 := ⟨Try.f89.name, by decide, Try.func89.trans (congrArg some (by kernel_rfl))⟩,
  f31 := Try.func90.trans (congrArg some (by kernel_rfl)),
  f32 := Try.func91.trans (congrArg some (by kernel_rfl)),
  f33 := ⟨Try.f92.name, by decide, Try.func92.trans (congrArg some (by kernel_rfl))⟩,
  f34 := ⟨Try.f93.name, by decide, Try.func93.trans (congrArg some (by kernel_rfl))⟩,
  f35 := ⟨Try.f94.name, by decide, Try.func94.trans (congrArg some (by kernel_rfl))⟩,
  f40 := ⟨Try.f95.name, by decide, Try.func95.trans (congrArg some (by kernel_rfl))⟩,
  t0 := Try.underlying0,
  a0 := Try.isAgg0,
  z0 := Try.sizeOf0,
  v0 := Try.zeroValue0,
  t3 := Try.underlying3,
  a3 := Try.isAgg3,
  z3 := Try.sizeOf3,
  v3 := Try.zeroValue3,
  t4 := Try.underlying4,
  a4 := Try.isAgg4,
  z4 := Try.sizeOf4,
  v4 := Try.zeroValue4,
  t5 := Try.underlying5,
  a5 := Try.isAgg5,
  z5 := Try.sizeOf5,
  v5 := Try.zeroValue5,
  t9 := Try.underlying9,
  a9 := Try.isAgg9,
  z9 := Try.sizeOf9,
  v9 := Try.zeroValue9,
  t22 := Try.underlying90,
  a22 := Try.isAgg90,
  z22 := Try.sizeOf90,
  v22 := Try.zeroValue90,
  t23 := Try.underlying90,
  a23 := Try.isAgg90,
  z23 := Try.sizeOf90,
  v23 := Try.zeroValue90,
  t25 := Try.underlying3,
  a25 := Try.isAgg3,
  z25 := Try.sizeOf3,
  v25 := Try.zeroValue3,
  t32 := Try.underlying95,
  a32 := Try.isAgg95,
  z32 := Try.sizeOf95,
  v32 := Try.zeroValue95,
  t35 := Try.underlying119,
  a35 := Try.isAgg119,
  z35 := Try.sizeOf119,
  v35 := Try.zeroValue119,
  t36 := Try.underlying120,
  a36 := Try.isAgg120,
  z36 := Try.sizeOf120,
  v36 := Try.zeroValue120,
  t41 := Try.underlying124,
  a41 := Try.isAgg124,
  z41 := Try.sizeOf124,
  v41 := Try.zeroValue124,
  t44 := Try.underlying107,
  a44 := Try.isAgg107,
  z44 := Try.sizeOf107,
  v44 := Try.zeroValue107,
  t46 := Try.underlying110,
  a46 := Try.isAgg110,
  z46 := Try.sizeOf110,
  v46 := Try.zeroValue110,
  t53 := Try.underlying128,
  a53 := Try.isAgg128,
  z53 := Try.sizeOf128,
  v53 := Try.zeroValue128,
  t57 := Try.underlying132,
  a57 := Try.isAgg132,
  z57 := Try.sizeOf132,
  v57 := Try.zeroValue132,
  t63 := Try.underlying134,
  a63 := Try.isAgg134,
  z63 := Try.sizeOf134,
  v63 := Try.zeroValue134,
  t64 := Try.underlying135,
  a64 := Try.isAgg135,
  z64 := Try.sizeOf135,
  v64 := Try.zeroValue135 }

/-- slices.Sort's two contracts here. -/
theorem sortsA (m : Nat) : AnyZI.SortsIn Try.prog sortedA_ren Fence.wide m :=
  ⟨fun blk off cap ss W hH hblk hsz => callsIn_wide.2 (AnyM.slices_Sort_int sortA blk off cap ss W hH hblk hsz),
   fun p cap W => callsIn_wide.2 (AnyM.slices_Sort_int_none sortA p cap W)⟩
end Go.Proofs
namespace Go.Zs
open Go Go.RowKit Go.Maps Go.Sort Go.Shelf Go.Proofs

theorem sortedOK : SortedOK Try.prog 49 64 := by
  intro bx b es clock ks w hbx hcell hb hkeys hnd hbn hbl hwf hlen
  let R : Value → Option (DataW Unit × List MemPlace) := fun _ => some (.lit (.bool true), [])
  have hes : es.size = ks.length := by
    have := congrArg List.length hkeys
    simpa using this
  have hkey : ∀ x ∈ es.toList, ∃ n : Int, x.key = .int .i64 n ∧ n ∈ ks := by
    intro x hx
    have : x.key ∈ ks.map (Value.int .i64) := by rw [← hkeys]; exact List.mem_map_of_mem hx
    obtain ⟨n, h1, h2⟩ := List.mem_map.1 this
    exact ⟨n, h2.symm, h1⟩
  have hu : Try.prog.underlying 3 = some (.int .i64) := by kernel_rfl
  have hrd : ∀ x ∈ es.toList, ∃ n : Int, x.key = .int .i64 n ∧ n ∈ ks ∧ Go.WideElems.rd Try.prog 3 R x = some (.int .i64 n, .lit (.bool true)) := by
    intro x hx
    obtain ⟨n, h1, h2⟩ := hkey x hx
    refine ⟨n, h1, h2, ?_⟩
    have hw := hwf n h2
    unfold wfZ at hw
    rw [Bool.and_eq_true, leZ_iff, leZ_iff] at hw
    have hwf' : (Lit.int .i64 n).wf = true := by
      simp only [Lit.wf, Bool.and_eq_true, decide_eq_true_eq]
      exact ⟨hw.1, hw.2⟩
    simp [Go.WideElems.rd, keyOf, mapKey, hu, h1, hwf', R]
  have F : Go.WideElems.Fit Try.prog 3 R es clock := by
    refine ⟨by rw [hes]; exact Nat.le_trans hlen (by decide), ⟨hbl, hbn, ?_⟩, fun x hx => ?_⟩
    · rw [hkeys]
      exact List.pairwise_map.2 (hnd.imp fun h e => h (by cases e; rfl))
    · obtain ⟨n, _, _, h3⟩ := hrd x hx
      exact ⟨_, h3⟩
  have hown : w.ownsMap Try.prog 3 R b es.size (.map ((es.toList.map (Go.WideElems.rg Try.prog 3 R)).foldr DataW.insert [])) := ⟨es, clock, hb, F, Nat.le_refl _, rfl⟩
  generalize hD : (DataW.map ((es.toList.map (Go.WideElems.rg Try.prog 3 R)).foldr DataW.insert []) : DataW Unit) = D0 at hown
  have hsize : Maps.size D0 = ks.length := by
    rw [← hD, Maps.size_eq, (Go.WideShapes.sorted_perm _).length_eq, List.length_map, Array.length_toList, hes]
  have hperm : (intKeys D0).Perm ks := by
    rw [← hD]
    have h1 : (intKeys (DataW.map ((es.toList.map (Go.WideElems.rg Try.prog 3 R)).foldr DataW.insert []) : DataW Unit)) = ((es.toList.map (Go.WideElems.rg Try.prog 3 R)).foldr DataW.insert []).map fun p => intOf p.1 := rfl
    rw [h1]
    refine ((Go.WideShapes.sorted_perm _).map _).trans ?_
    have h2 : (es.toList.map (Go.WideElems.rg Try.prog 3 R)).map (fun p => intOf p.1) = ks := by
      have h3 : ∀ l : List MapEntry, (∀ x ∈ l, ∃ n : Int, x.key = .int .i64 n ∧ n ∈ ks ∧ Go.WideElems.rd Try.prog 3 R x = some (.int .i64 n, .lit (.bool true))) → ∀ q : List Int, l.map (·.key) = q.map (Value.int .i64) → (l.map (Go.WideElems.rg Try.prog 3 R)).map (fun p => intOf p.1) = q := by
        intro l
        induction l with
        | nil => intro _ q hq; cases q with | nil => rfl | cons a q => cases hq
        | cons x l ih =>
          intro hx q hq
          cases q with
          | nil => cases hq
          | cons a q =>
            rw [List.map_cons, List.map_cons] at hq
            obtain ⟨e1, e2⟩ := List.cons.inj hq
            obtain ⟨n, h4, _, h5⟩ := hx x (List.mem_cons_self ..)
            rw [h4] at e1; cases e1
            rw [List.map_cons, List.map_cons, ih (fun y hy => hx y (List.mem_cons_of_mem _ hy)) q e2, Go.WideElems.rg_of h5]
            rfl
      exact h3 _ hrd ks hkeys
    rw [h2]
  have hseq : SeqGives Fence.wide 2 Try.prog 64 #[.pointer (some ⟨bx, 0, none⟩)] encZ (fun ss => ss.Perm (intKeys D0)) (Maps.size D0) w :=
    AnyZI.keys_gives (ρ := keysA_ren) { keysA with } Fence.wide _ trivial rfl (by omega) bx b es.size D0 w hbx hcell hown
  have cS := AnyZI.sorted_in sortedA Fence.wide 5 trivial trivial trivial trivial rfl (by omega) (sortsA _) (enters_of Try.func63 (by kernel_rfl) rfl) 64 #[.pointer (some ⟨bx, 0, none⟩)] trivial (enters_of Try.func64 (by kernel_rfl) rfl) _ _
    (by rw [hsize]; exact Nat.le_trans hlen (by decide)) (by rw [hsize]; omega) w hseq
  change CallsIn _ _ Try.prog 49 _ _ _ at cS
  refine (callsIn_wide.1 cS).mono ?_
  rintro e w' ⟨v, ss, rfl, hp, hrow, hnil, hB⟩
  have hp2 := hp.trans hperm
  refine ⟨v, sortedA_ren.t 26, rfl, ?_, ?_, hB⟩
  · rw [sortZ_merge hp2, hp2.length_eq] at hrow
    exact hrow
  · rw [hnil]
    constructor
    · rintro rfl; exact List.nil_perm.1 hp2
    · rintro rfl; exact List.perm_nil.1 hp2
end Go.Zs
