/- A sound evaluator for the model's programs: regions that draw their order, in which one operation makes an object and is not ordered with the others. -/
import Derived.Test.YtohbahdfbgndbaaGreatZsT
namespace Go.Zs
open Go Go.RowKit

theorem T.same_eq {α : Type} {f : α → α → Bool} (hf : ∀ a b, f a b = true → a = b) : ∀ (x y : T α), T.same f x y = true → x = y
  | .leaf, .leaf, _ => rfl
  | .leaf, .node _ _ _, h => by cases h
  | .node u l r, .leaf, h => by cases u <;> cases h
  | .node u l r, .node v l' r', h => by
    cases u <;> cases v <;> simp only [T.same, Bool.and_eq_true, Bool.false_eq_true] at h
    · rw [T.same_eq hf l l' h.1, T.same_eq hf r r' h.2]
    · rw [hf _ _ h.1.1, T.same_eq hf l l' h.1.2, T.same_eq hf r r' h.2]

theorem sameEs_eq : ∀ (x y : List (V × V)), sameEs x y = true → x = y
  | [], [], _ => rfl
  | [], _ :: _, h => by cases h
  | (_, _) :: _, [], h => by cases h
  | (a, b) :: x, (c, d) :: y, h => by
    simp only [sameEs, Bool.and_eq_true] at h
    rw [V.same_eq _ _ h.1.1, V.same_eq _ _ h.1.2, sameEs_eq x y h.2]

theorem Ob.same_eq (x y : Ob) (h : Ob.same x y = true) : x = y := by
  cases x <;> cases y <;> simp only [Ob.same, Bool.and_eq_true, Bool.false_eq_true] at h
  · rw [V.sames_eq _ _ h.1, of_decide_eq_true h.2]
  · rw [sameEs_eq _ _ h.1.1, of_decide_eq_true h.1.2, Nat.eq_of_beq_eq_true h.2]
  · rw [of_decide_eq_true h.1.1.1, Nat.eq_of_beq_eq_true h.1.1.2, of_decide_eq_true h.1.2, Nat.eq_of_beq_eq_true h.2]

theorem Heap.same_eq (x y : Heap) (h : Heap.same x y = true) : x = y := by
  obtain ⟨a, b⟩ := x
  obtain ⟨c, d⟩ := y
  simp only [Heap.same, Bool.and_eq_true] at h
  rw [Nat.eq_of_beq_eq_true h.1, T.same_eq Ob.same_eq _ _ h.2]

section raw
variable {E : Env} {call : CallF} {ι : Emb} {N : Nat} {t : Tm} {a : Act} {o : Oper}

/-- What makes an object lays one block, whatever the memory. -/
theorem raw_sound (T : TR ι N t a.tmps) (ha : allocB o.op = true) {id : Nat} {r : V × Heap} (hd : dOp E call o.op t ⟨id, .leaf⟩ = some r) {cs : List V} (hg : r.2.get id = some (.cells cs .own)) :
    ∃ (c : Array Value) (e : TypeId), VRs ι cs c.toList ∧ ∀ w : World, ∃ s : Sem Value, ∃ v', (execOp a.eval o).run E.P w = (do pure (Next.value (← s)) : Sem Next).run E.P w ∧ s.run E.P w = .ok v' (w.alloc (.cells c e)) ∧
      ∀ κ, Emb.le ι κ → κ id = some ⟨w.heap.size, 0, c.size⟩ → VR κ r.1 v' := by
  have newg : ∀ (x : Ob), ((⟨id, .leaf⟩ : Heap).new x).get id = some x := fun x => by rw [Heap.get_new, if_pos rfl]
  have ptrv : ∀ (κ : Emb) (w : World) (c : Array Value), κ id = some ⟨w.heap.size, 0, c.size⟩ → VR κ (.ptr (some (id, 0))) (.pointer (some ⟨w.heap.size, 0, none⟩)) := fun κ w c h => VR.ptr (o := 0) h
  unfold dOp at hd
  split at hd <;> first
    | (rename_i ho; rw [ho] at ha; cases ha; done)
    | skip
  · rename_i e ho
    obtain ⟨z, hz, hd1⟩ := bind_some hd
    obtain ⟨hp, hd2⟩ := bif_some hd1
    cases hd2
    obtain ⟨z', hr, rfl⟩ := run_zero hz
    rw [newg] at hg
    cases hg
    refine ⟨z'.cells, e, (VR.ofValue z').cells hp, fun w => ⟨Instr.alloc e true (.tuple #[]), .pointer (some ⟨w.heap.size, 0, none⟩), by unfold execOp; rw [ho], ?_, fun κ _ hk => ptrv κ w _ hk⟩⟩
    unfold Instr.alloc
    simp only [Sem.run_bind, hr w, Result.andThen_ok]
    rfl
  · rename_i e x ho
    obtain ⟨hp, hd2⟩ := bif_some hd
    cases hd2
    rw [newg] at hg
    cases hg
    exact ⟨(a.eval x).cells, e, (ev_sound T x).cells hp, fun w => ⟨Instr.box e (a.eval x), .pointer (some ⟨w.heap.size, 0, none⟩), by unfold execOp; rw [ho], rfl, fun κ _ hk => ptrv κ w _ hk⟩⟩
  · rename_i ty len ps ho
    have hps := parts_sound T ps
    generalize hps' : (ps.map fun (i, x) => (i, a.eval x)) = ps' at hps
    have hex : execOp a.eval o = (do pure (Next.value (← Instr.buildSlice ty len ps'))) := by unfold execOp; rw [ho, ← hps']
    clear hps'
    unfold dBuildSlice at hd
    split at hd
    · rename_i e hu
      obtain ⟨s, hs, hd⟩ := bind_some hd
      obtain ⟨hb, hd⟩ := bif_some hd
      obtain ⟨z, hz, hd⟩ := bind_some hd
      obtain ⟨cs0, hcs, rfl⟩ := map_some hd
      rw [newg] at hg
      cases hg
      obtain ⟨s', hs', hzl, hzz⟩ := zeros_sound hz
      rw [hs] at hs'; cases hs'
      have hle : ¬ len * s > 2 ^ 24 := by have := ble hb; omega
      rcases hzz with ⟨h0, rfl⟩ | ⟨hne, z', hr, hsz, hv⟩
      · obtain ⟨r', hf, hv⟩ := fill_sound (ι := ι) (cs' := (Array.range (len * s)).map ((#[] : Array Value)[· % (#[] : Array Value).size]!)) hps (by rw [h0]; simpa using VRs.nil) hcs
        refine ⟨r', e, hv, fun w => ⟨_, .slice (some ⟨w.heap.size, 0, none⟩) len len, by rw [hex], ?_, fun κ _ hk => .sl hk (Nat.le_refl _) (Nat.le_refl _) (fun _ => rfl) (fun _ => rfl) (Nat.zero_le _) (by simp only [h0]; omega)⟩⟩
        unfold Instr.buildSlice
        simp only [Sem.run_bind, run_und hu, Result.andThen_ok, run_size hs, if_neg hle, if_pos h0, Sem.run_pure, hf]
        rfl
      · have hv' := hv ι
        rw [hsz] at hv'
        obtain ⟨r', hf, hv2⟩ := fill_sound (ι := ι) hps hv' hcs
        have hl : r'.size = len * s := by
          have l1 := hv2.length
          have l2 : ∀ {ps : List (Nat × V)} {a b : List V}, dFill (fun i => some (i * s, s)) a ps = some b → b.length = a.length := by
            intro ps
            induction ps with
            | nil => intro a b e; simp only [dFill] at e; cases e; rfl
            | cons p ps ih =>
              intro a b e
              obtain ⟨i, v⟩ := p
              simp only [dFill] at e
              obtain ⟨hc, e⟩ := bif_some e
              rw [ih e]
              simp only [Bool.and_eq_true] at hc
              have := ble hc.2
              unfold splice; simp; omega
          have := l2 hcs
          simp at l1; omega
        refine ⟨r', e, hv2, fun w => ⟨_, .slice (some ⟨w.heap.size, 0, none⟩) len len, by rw [hex], ?_, fun κ _ hk => .sl hk (Nat.le_refl _) (Nat.le_refl _) (fun _ => rfl) (fun _ => rfl) (Nat.zero_le _) (by show 0 + len * s ≤ 0 + r'.size; omega)⟩⟩
        unfold Instr.buildSlice
        simp only [Sem.run_bind, run_und hu, Result.andThen_ok, run_size hs, if_neg hle, if_neg hne, hr w, Sem.run_pure, hsz, hf]
        rfl
    · cases hd
  · cases hd
end raw

/-- What is asked of a region in which operation f is taken apart. -/
structure FineL (E : Env) (ops : Array Oper) (bit : Nat → Nat → Bool) (f : Nat) : Prop where
  back : ∀ i o, ops[i]? = some o → ∀ e ∈ o.after, Region.binds .any e = true → e.on < i
  read : ∀ i j o u d, ops[i]? = some o → ops[j]? = some u → u.dst = some d → d ∈ o.looksAt ops → (j < i ∧ bit i j = true) ∨ (i < j ∧ bit j i = true)
  same : ∀ i j o u d, ops[i]? = some o → ops[j]? = some u → u.dst = some d → o.dst = some d → (j < i → bit i j = true) ∧ (i < j → bit j i = true)
  eff : ∀ i j, effX E ops f i = true → effX E ops f j = true → (j < i → bit i j = true) ∧ (i < j → bit j i = true)
  clo : ∀ (L : Nat → Bool), (∀ j u, ops[j]? = some u → L j = true → ∀ e ∈ u.after, Region.binds .any e = true → L e.on = true) →
    ∀ i o, ops[i]? = some o → (∀ e ∈ o.after, Region.binds .any e = true → L e.on = true) → ∀ j, bit i j = true → L j = true
  late : ∃ o, ops[f]? = some o ∧ allocB o.op = true

section late
variable {E : Env} {ops : Array Oper} {N : Nat} {t0 : Tm} {v : Nat → V} {w0 : Base} {ro : Option Nat} {call : CallF} {f : Nat}

theorem effX_some {i : Nat} {o : Oper} (h : ops[i]? = some o) : effX E ops f i = (effB E o.op && !Nat.beq i f) := by simp [effX, h]

theorem fineL_of (h : okLate E ops f = true) : FineL E ops (bitOf ops) f := by
  unfold okLate at h
  simp only [Bool.and_eq_true] at h
  obtain ⟨hlate, h⟩ := h
  simp only [List.all_eq_true, List.mem_range, Array.length_toList, Array.getElem?_toList] at h
  have get : ∀ i o, ops[i]? = some o → i < ops.size := fun i o ho => (Array.getElem?_eq_some_iff.1 ho).1
  have main : ∀ i o, ops[i]? = some o → (∀ e ∈ o.after, Region.binds .any e = true → e.on < i) ∧ ∀ j u, ops[j]? = some u →
      (∀ d, u.dst = some d → (d ∈ o.looksAt ops → (j < i ∧ bitOf ops i j = true) ∨ (i < j ∧ bitOf ops j i = true)) ∧ (o.dst = some d → (j < i → bitOf ops i j = true) ∧ (i < j → bitOf ops j i = true))) ∧
      ((effB E o.op && !Nat.beq i f) = true → (effB E u.op && !Nat.beq j f) = true → (j < i → bitOf ops i j = true) ∧ (i < j → bitOf ops j i = true)) := by
    intro i o ho
    have hi := h i (get i o ho)
    rw [ho] at hi
    simp only [Bool.and_eq_true] at hi
    obtain ⟨⟨h1, h2⟩, h3⟩ := hi
    have tri : ∀ {j : Nat} {z : Bool}, (bif Nat.blt j i then bitOf ops i j else bif Nat.blt i j then bitOf ops j i else z) = true → (j < i → bitOf ops i j = true) ∧ (i < j → bitOf ops j i = true) ∧ (j = i → z = true) := by
      intro j z hz
      refine ⟨fun hlt => ?_, fun hlt => ?_, fun heq => ?_⟩
      · rw [show Nat.blt j i = true from Nat.ble_eq_true_of_le hlt] at hz; exact hz
      · have : Nat.blt j i = false := by
          cases hb : Nat.blt j i
          · rfl
          · have := blt hb; omega
        rw [this, show Nat.blt i j = true from Nat.ble_eq_true_of_le hlt] at hz; exact hz
      · subst heq
        have : Nat.blt j j = false := by
          cases hb : Nat.blt j j
          · rfl
          · have := blt hb; omega
        rw [this] at hz; exact hz
    refine ⟨?_, fun j u hu => ?_⟩
    · intro e he hb
      have hh : (o.after.toList.all fun e => !Region.binds .any e || decide (e.on < i)) = true := h1
      rw [List.all_eq_true] at hh
      have := hh e (by simpa using he)
      rw [hb] at this
      simpa using this
    · have hj := List.all_eq_true.1 h3 j (List.mem_range.2 (get j u hu))
      rw [hu] at hj
      simp only [Bool.and_eq_true] at hj
      obtain ⟨g1, g2⟩ := hj
      refine ⟨fun d hd => ?_, fun e1 e2 => ?_⟩
      · rw [hd] at g1
        simp only [Bool.and_eq_true] at g1
        obtain ⟨k1, k2⟩ := g1
        refine ⟨fun hm => ?_, fun hs => ?_⟩
        · have : (o.looksAt ops).contains d = true := by simpa using hm
          rw [this, cond_true] at k1
          obtain ⟨a1, a2, a3⟩ := tri k1
          rcases Nat.lt_trichotomy j i with h4 | h4 | h4
          · exact .inl ⟨h4, a1 h4⟩
          · exact absurd (a3 h4) (by simp)
          · exact .inr ⟨h4, a2 h4⟩
        · have : (o.dst == some d) = true := by rw [hs]; simp
          rw [this, cond_true] at k2
          obtain ⟨a1, a2, _⟩ := tri k2
          exact ⟨a1, a2⟩
      · rw [e1, e2] at g2
        simp only [Bool.and_self, cond_true] at g2
        obtain ⟨a1, a2, _⟩ := tri g2
        exact ⟨a1, a2⟩
  refine {
    back := fun i o ho => (main i o ho).1
    read := fun i j o u d ho hu hd hl => (((main i o ho).2 j u hu).1 d hd).1 hl
    same := fun i j o u d ho hu hd hd2 => (((main i o ho).2 j u hu).1 d hd).2 hd2
    eff := fun i j h1 h2 => ?_
    clo := fun L hL i o ho hdep j hb => ?_
    late := ?_ }
  · unfold effX at h1 h2
    cases hi : ops[i]? with
    | none => rw [hi] at h1; cases h1
    | some o => cases hj : ops[j]? with
      | none => rw [hj] at h2; cases h2
      | some u =>
        rw [hi] at h1; rw [hj] at h2
        exact ((main i o hi).2 j u hj).2 h1 h2
  · unfold bitOf at hb
    cases hq : (masks ops.toList [])[i]? with
    | none => simp [List.getD, hq] at hb
    | some m =>
      simp [List.getD, hq] at hb
      exact masks_clo L hL ops.toList [] rfl (by simp) i o m ho hq hdep j hb
  · cases hf : ops[f]? with
    | none => rw [show ops.toList[f]? = none from by rw [Array.getElem?_toList]; exact hf] at hlate; cases hlate
    | some o =>
      rw [show ops.toList[f]? = some o from by rw [Array.getElem?_toList]; exact hf] at hlate
      exact ⟨o, rfl, hlate⟩

/-- The memory behind k of those that turn it, with the object of f. -/
def withL (S : Nat → Heap) (id k0 : Nat) (cs : Option (List V)) (k : Nat) : Heap := bif Nat.ble k k0 then (S k).setO id cs else S k

def seesL (S : Nat → Heap) (id k0 : Nat) (cs : Option (List V)) (aft : Bool) (k : Nat) : Heap := bif aft && Nat.ble k k0 then (S k).setO id cs else S k

theorem withL_none (S : Nat → Heap) (id k0 k : Nat) : withL S id k0 none k = S k := by unfold withL; cases Nat.ble k k0 <;> rfl
theorem seesL_none (S : Nat → Heap) (id k0 : Nat) (b : Bool) (k : Nat) : seesL S id k0 none b k = S k := by unfold seesL; cases b && Nat.ble k k0 <;> rfl

/-- The steps, in the text's order. -/
structure StepsL (E : Env) (call : CallF) (ops : Array Oper) (bit : Nat → Nat → Bool) (N : Nat) (t0 : Tm) (v : Nat → V) (S : Nat → Heap) (f id k0 : Nat) (cs : Option (List V)) : Prop where
  eff : ∀ i o, ops[i]? = some o → effX E ops f i = true → dStep E call ops o ⟨tmL ops N t0 v (fun _ => true) i, seesL S id k0 cs (bit i f) (cntL (effX E ops f) (fun _ => true) i)⟩ = some (v i, S (cntL (effX E ops f) (fun _ => true) i + 1))
  chain : ∀ i o, ops[i]? = some o → effX E ops f i = true → (bit i f = true ↔ k0 ≤ cntL (effX E ops f) (fun _ => true) i)
  quiet : ∀ i o, ops[i]? = some o → i ≠ f → effB E o.op = false → ∀ k, cntL (effX E ops f) (fun j => bit i j) ops.size ≤ k → k + cntL (effX E ops f) (fun j => bit j i) ops.size ≤ cntL (effX E ops f) (fun _ => true) ops.size →
    dStep E call ops o ⟨tmL ops N t0 v (fun _ => true) i, seesL S id k0 cs (bit i f) k⟩ = some (v i, seesL S id k0 cs (bit i f) k)
  late : ∀ o, ops[f]? = some o → (∀ c, cs = some c → wantedV ops o (tmL ops N t0 v (fun _ => true) f) = some true ∧ ∃ r, dOp E call o.op (tmL ops N t0 v (fun _ => true) f) ⟨id, .leaf⟩ = some r ∧ r.1 = v f ∧ r.2.get id = some (.cells c .own)) ∧
    (cs = none → wantedV ops o (tmL ops N t0 v (fun _ => true) f) = some false ∧ v f = .undef)
  low : ∀ k, k ≤ k0 → (S k).get id = none

theorem cntL_low (F : Nat → Bool) (k0 : Nat) : ∀ n, cntL F (fun j => decide (cntL F (fun _ => true) j < k0)) n ≤ k0 := by
  have key : ∀ n, cntL F (fun j => decide (cntL F (fun _ => true) j < k0)) n = min k0 (cntL F (fun _ => true) n) := by
    intro n
    induction n with
    | zero => simp [cntL]
    | succ n ih =>
      simp only [cntL, ih, Bool.and_true]
      cases hF : F n
      · simp
      · by_cases hlt : cntL F (fun _ => true) n < k0
        · simp [hlt]; omega
        · simp [hlt]; omega
  intro n
  rw [key]
  omega

/-- How matters stand when these are listed. -/
def StandL (w0 : Base) (ι : Emb) (S : Nat → Heap) (id k0 : Nat) (cs : Option (List V)) (lf : Bool) (k : Nat) (w : World) : Prop :=
  bif lf && cs.isSome then HR w0 ι (withL S id k0 cs k) w else HR (w0.res id) ι (S k) w

theorem HR.unres {ι : Emb} {h : Heap} {w : World} {id : Nat} (H : HR (w0.res id) ι h w) : HR w0 ι h w :=
  ⟨H.below, H.dom, H.obj, H.own, H.sep, H.gd, H.gs, H.gn, fun i hi => H.rv i (List.mem_cons_of_mem _ hi)⟩

theorem draw_late (hE : EnvOK E) (hc : ∀ w0 : Base, w0.ok = okRound E → CallOK E w0 call) (hok : w0.ok = okRound E) {bit : Nat → Nat → Bool} {id k0 : Nat} {cs : Option (List V)} (hrs : id ∉ w0.rs) (hf : FineL E ops bit f) {S : Nat → Heap} (hs : StepsL E call ops bit N t0 v S f id k0 cs)
    {Q : Exit → Act → World → Prop} (defs : List Deferred) :
    ∀ (fuel : Nat) (listed : Array Bool) (ι : Emb) (a : Act) (w : World), listed.size = ops.size →
      (∀ j u, ops[j]? = some u → listed.getD j false = true → ∀ e ∈ u.after, Region.binds .any e = true → listed.getD e.on false = true) →
      unL (fun j => listed.getD j false) ops.size ≤ fuel →
      StandL w0 ι S id k0 cs (listed.getD f false) (cntL (effX E ops f) (fun j => listed.getD j false) ops.size) w → TR ι N (tmL ops N t0 v (fun j => listed.getD j false) ops.size) a.tmps → a.defers = defs →
      (∀ κ a' w', Emb.le ι κ → HR w0 κ (withL S id k0 cs (cntL (effX E ops f) (fun _ => true) ops.size)) w' → TR κ N (tmL ops N t0 v (fun _ => true) ops.size) a'.tmps → a'.defers = defs → Q .normal a' w') →
      wpAnyIn (Fen ro) 0 E.P .any ops Q fuel listed a w := by
  have hfin : ∀ (listed : Array Bool) (ι : Emb) (a : Act) (w : World), (∀ j, j < ops.size → listed.getD j false = true) →
      StandL w0 ι S id k0 cs (listed.getD f false) (cntL (effX E ops f) (fun j => listed.getD j false) ops.size) w → TR ι N (tmL ops N t0 v (fun j => listed.getD j false) ops.size) a.tmps → a.defers = defs →
      (∀ κ a' w', Emb.le ι κ → HR w0 κ (withL S id k0 cs (cntL (effX E ops f) (fun _ => true) ops.size)) w' → TR κ N (tmL ops N t0 v (fun _ => true) ops.size) a'.tmps → a'.defers = defs → Q .normal a' w') → Q .normal a w := by
    intro listed ι a w hall H T hdef hQ
    obtain ⟨of, hof, _⟩ := hf.late
    have hfl : listed.getD f false = true := hall f (Array.getElem?_eq_some_iff.1 hof).1
    refine hQ ι a w (Emb.le_refl ι) ?_ ?_ hdef
    · rw [hfl, cntL_congr ops.size (B := fun _ => true) fun j hj _ => hall j hj] at H
      cases cs with
      | some c => exact H
      | none => rw [withL_none]; exact HR.unres H
    · refine ⟨T.size, fun k => ?_⟩
      rw [← tmL_agree (L := fun j => listed.getD j false) ops.size fun j hj _ => hall j hj]
      exact T.get k
  intro fuel
  induction fuel with
  | zero =>
    intro listed ι a w hsz hcl hun H T hdef hQ
    have hall := unL_zero _ (Nat.le_zero.1 hun)
    refine ⟨?_, hfin listed ι a w hall H T hdef hQ⟩
    cases hr : Region.ready .any ops listed with
    | nil => rfl
    | cons i l =>
      have : i ∈ Region.ready .any ops listed := by rw [hr]; exact List.mem_cons_self ..
      obtain ⟨h0, o, ho, _⟩ := mem_ready.1 this
      have hi : i < ops.size := (Array.getElem?_eq_some_iff.1 ho).1
      have := hall i hi
      have hi2 : i < listed.size := by omega
      simp [hi2] at h0 this
      rw [h0] at this; cases this
  | succ fuel ih =>
    intro listed ι a w hsz hcl hun H T hdef hQ
    refine ⟨fun hr => ?_, fun i hi => ?_⟩
    · by_cases h0 : unL (fun j => listed.getD j false) ops.size = 0
      · exact hfin listed ι a w (unL_zero _ h0) H T hdef hQ
      · exfalso
        obtain ⟨j, hj, hL, hlow⟩ := unL_pos _ h0
        obtain ⟨o, ho⟩ : ∃ o, ops[j]? = some o := ⟨ops[j], Array.getElem?_eq_getElem hj⟩
        have : j ∈ Region.ready .any ops listed := by
          refine mem_ready.2 ⟨?_, o, ho, fun e he hb => hlow e.on (hf.back j o ho e he hb)⟩
          have hj2 : j < listed.size := by omega
          simp [hj2] at hL ⊢
          exact hL
        rw [hr] at this; cases this
    · obtain ⟨h0, o, ho, hdeps⟩ := mem_ready.1 hi
      have hin : i < ops.size := (Array.getElem?_eq_some_iff.1 ho).1
      have hi2 : i < listed.size := by omega
      let L : Nat → Bool := fun j => listed.getD j false
      have hLi : L i = false := by simp [L, hi2] at h0 ⊢; exact h0
      have hclo := hf.clo L hcl
      have hdown := hclo i o ho hdeps
      have hup : ∀ j u, ops[j]? = some u → L j = true → bit j i = true → False := by
        intro j u hj hL hb
        have := hclo j u hj (hcl j u hj hL) i hb
        rw [hLi] at this; cases this
      have hL' : ∀ j, (listed.setIfInBounds i true).getD j false = addL L i j := by
        intro j
        by_cases hj : j = i
        · subst hj
          rw [addL_same]
          simp [hi2]
        · rw [addL_ne L hj, getD_set_ne false (Ne.symm hj)]
      have hcl' : ∀ j u, ops[j]? = some u → (listed.setIfInBounds i true).getD j false = true → ∀ e ∈ u.after, Region.binds .any e = true → (listed.setIfInBounds i true).getD e.on false = true := by
        intro j u hj hLj e he hb
        by_cases hji : j = i
        · subst hji
          rw [ho] at hj; cases hj
          exact getD_set_true (hdeps e he hb)
        · rw [hL', addL_ne L hji] at hLj
          exact getD_set_true (hcl j u hj hLj e he hb)
      have e : (fun j => (listed.setIfInBounds i true).getD j false) = addL L i := funext hL'
      have hun' : unL (fun j => (listed.setIfInBounds i true).getD j false) ops.size ≤ fuel := by
        rw [e]
        have := unL_add hLi ops.size hin
        have h2 : unL L ops.size ≤ fuel + 1 := hun
        omega
      have hlook : ∀ d ∈ o.looksAt ops, (tmL ops N t0 v L ops.size).get d = (tmL ops N t0 v (fun _ => true) i).get d := by
        intro d hd
        rw [← tmL_prefix (i := i) ops.size (by omega)]
        refine tmL_agree ops.size fun j hj hdst => ?_
        obtain ⟨u, hu⟩ : ∃ u, ops[j]? = some u := ⟨ops[j], Array.getElem?_eq_getElem hj⟩
        have hud : u.dst = some d := by simpa [dstOf, hu] using hdst
        rcases hf.read i j o u d ho hu hud hd with ⟨h1, h2⟩ | ⟨h1, h2⟩
        · rw [hdown j h2]; simp [h1]
        · have : L j = false := by
            cases hq : L j with
            | false => rfl
            | true => exact (hup j u hu hq h2).elim
          rw [this]; simp; omega
      -- behind the operation
      have next : ∀ κ w' v', Emb.le ι κ → VR κ (v i) v' → StandL w0 κ S id k0 cs (addL L i f) (cntL (effX E ops f) (addL L i) ops.size) w' →
          wpAnyIn (Fen ro) 0 E.P .any ops Q fuel (listed.setIfInBounds i true) (a.put o.dst v') w' := by
        intro κ w' v' g1 g3 g2
        refine ih (listed.setIfInBounds i true) κ _ w' (by simp [hsz]) hcl' hun' ?_ ?_ (by rw [← hdef]; cases o.dst <;> rfl) fun μ a' w'' f1 f2 f3 f4 => hQ μ a' w'' (g1.trans' f1) f2 f3 f4
        · rw [e, hL' f]; exact g2
        · rw [e]
          have hput := (T.mono g1).put o.dst g3
          refine ⟨hput.size, fun k => ?_⟩
          have hadd := tmL_add (ops := ops) (N := N) (t0 := t0) (v := v) hLi (fun j hj hLj => by
            by_cases hnone : dstOf ops i = none
            · exact .inr hnone
            · refine .inl fun heq => ?_
              have hj2 : j < ops.size := by
                rcases Nat.lt_or_ge j ops.size with h | h
                · exact h
                · exfalso
                  have : listed.getD j false = false := by
                    have : ¬ j < listed.size := by omega
                    simp [this]
                  have h2 : listed.getD j false = true := hLj
                  rw [this] at h2; cases h2
              obtain ⟨u, hu⟩ : ∃ u, ops[j]? = some u := ⟨ops[j], Array.getElem?_eq_getElem hj2⟩
              obtain ⟨d, hd2⟩ : ∃ d, o.dst = some d := by
                cases hq : o.dst with
                | none => exact absurd (by simp [dstOf, ho, hq]) hnone
                | some d => exact ⟨d, rfl⟩
              have hud : u.dst = some d := by
                have : dstOf ops j = dstOf ops i := heq
                simpa [dstOf, ho, hu, hd2] using this
              exact hup j u hu hLj ((hf.same i j o u d ho hu hud hd2).2 hj)) ops.size hin k
          rw [hadd]
          have : dstOf ops i = o.dst := by simp [dstOf, ho]
          rw [this]
          exact hput.get k
      -- those that turn the memory and are listed without f stand ahead of f
      have hlowL : L f = false → cntL (effX E ops f) L ops.size ≤ k0 := by
        intro hLf
        refine Nat.le_trans (cntL_mono ops.size fun j hj hF hLj => ?_) (cntL_low (effX E ops f) k0 ops.size)
        obtain ⟨u, hu⟩ : ∃ u, ops[j]? = some u := ⟨ops[j], Array.getElem?_eq_getElem hj⟩
        rw [decide_eq_true_eq]
        rcases Nat.lt_or_ge (cntL (effX E ops f) (fun _ => true) j) k0 with hlt | hge
        · exact hlt
        · have hb := (hs.chain j u hu hF).2 hge
          have := hclo j u hu (hcl j u hu hLj) f hb
          rw [hLf] at this; cases this
      by_cases hif : i = f
      · -- the object is made
        subst hif
        have hLf : L i = false := hLi
        have hcnt : cntL (effX E ops i) (addL L i) ops.size = cntL (effX E ops i) L ops.size := by
          rw [cntL_add hLi ops.size hin]
          have : effX E ops i i = false := by rw [effX_some ho, Nat.beq_refl]; simp
          rw [this]; rfl
        have hk := hlowL hLf
        obtain ⟨of, hof, hal⟩ := hf.late
        rw [ho] at hof; cases hof
        have H' : HR (w0.res id) ι (S (cntL (effX E ops i) L ops.size)) w := by
          have := H
          unfold StandL at this
          rw [show listed.getD i false = false from hLf, Bool.false_and] at this
          exact this
        have hwc : wantedV ops o (tmL ops N t0 v L ops.size) = wantedV ops o (tmL ops N t0 v (fun _ => true) i) := wanted_congr hlook
        unfold wpOpIn
        rw [ho]
        cases cs with
        | none =>
          obtain ⟨hw0, hv0⟩ := (hs.late o ho).2 rfl
          have hw := wanted_sound T (hwc.trans hw0)
          simp only [hw, Bool.false_eq_true, if_false]
          refine ⟨fun _ _ => trivial, next ι w Go.undef (Emb.le_refl ι) (by rw [hv0]; exact VR.undef) ?_⟩
          unfold StandL
          rw [Option.isSome_none, Bool.and_false, cond_false, hcnt]
          exact H'
        | some cs =>
        obtain ⟨hw0, r, hr, hr1, hr2⟩ := (hs.late o ho).1 cs rfl
        have hr' : dOp E call o.op (tmL ops N t0 v L ops.size) ⟨id, .leaf⟩ = some r := by
          have c1 := dStep_congr (E := E) (call := call) (h := ⟨id, .leaf⟩) hlook
          unfold dStep at c1
          rw [hwc, hw0] at c1
          exact c1.trans hr
        obtain ⟨c, ty, hcc, hraw⟩ := raw_sound T hal hr' hr2
        obtain ⟨s, v', he1, he2, he3⟩ := hraw w
        obtain ⟨hl, Hn⟩ := H'.newAt hrs (o := .cells cs .own) (o' := .cells c ty) (p := ⟨w.heap.size, 0, c.size⟩) rfl
          ⟨c, ty, (0, 0), heap_alloc_new _ _, by simp, by have := hcc.length; simp at this; show cs.length ≤ c.size; omega, by
            show VRs ι cs ((c.toList.drop 0).take cs.length)
            rw [List.drop_zero, hcc.length, List.take_length]
            exact hcc, by intro _ j _; simp, fun _ => rfl⟩
        have hw := wanted_sound T (hwc.trans hw0)
        simp only [hw, if_true]
        refine wp_sem (fun c h => by rw [h] at hal; cases hal) (s := s) (r := (v i, (S (cntL (effX E ops i) L ops.size)).set id (.cells cs .own))) ⟨_, v', _, hl, Hn, by rw [← hr1]; exact he3 _ hl (Emb.add_same ..), he2⟩ he1 fun κ w1 v1 g1 g2 g3 => ?_
        refine next κ w1 v1 g1 g3 ?_
        unfold StandL
        rw [addL_same, Option.isSome_some, Bool.true_and, cond_true, hcnt]
        unfold withL
        rw [show Nat.ble (cntL (effX E ops i) L ops.size) k0 = true from Nat.ble_eq_true_of_le hk, cond_true]
        exact g2
      · -- another operation
        have hLf' : addL L i f = L f := addL_ne L (Ne.symm hif)
        -- its memory, and what becomes of it
        have go : ∀ (k k' : Nat), cntL (effX E ops f) L ops.size = k → cntL (effX E ops f) (addL L i) ops.size = k' → (k' = k ∨ (k' = k + 1 ∧ (bit i f = true ↔ k0 ≤ k))) →
            dStep E call ops o ⟨tmL ops N t0 v L ops.size, seesL S id k0 cs (bit i f) k⟩ = some (v i, if k' = k then seesL S id k0 cs (bit i f) k else S k') →
            wpOpIn (Fen ro) 0 E.P ops Q i (wpAnyIn (Fen ro) 0 E.P .any ops Q fuel (listed.setIfInBounds i true)) a w := by
          intro k k' hk hk' hcase hd
          have H0 : StandL w0 ι S id k0 cs (L f) k w := by rw [← hk]; exact H
          have plain : L f = false ∨ cs = none → seesL S id k0 cs (bit i f) k = S k → wpOpIn (Fen ro) 0 E.P ops Q i (wpAnyIn (Fen ro) 0 E.P .any ops Q fuel (listed.setIfInBounds i true)) a w := by
            intro hor hsee
            have hst : ∀ (μ : Emb) (j : Nat) (u : World), StandL w0 μ S id k0 cs (L f) j u = HR (w0.res id) μ (S j) u := by
              intro μ j u
              unfold StandL
              rcases hor with h | h
              · rw [h, Bool.false_and]; rfl
              · rw [h, Option.isSome_none, Bool.and_false]; rfl
            rw [hst] at H0
            rw [hsee] at hd
            have htarget : (if k' = k then S k else S k') = S k' := by split <;> simp_all
            rw [htarget] at hd
            refine step_sound hE (hc (w0.res id) hok) H0 T ho hd fun κ w' v' g1 g2 g3 => next κ w' v' g1 g3 ?_
            rw [hLf', hst, hk']
            exact g2
          cases cs with
          | none => exact plain (.inr rfl) (seesL_none S id k0 _ k)
          | some cs =>
          cases hb : bit i f with
          | true =>
            have hLft : L f = true := hdown f hb
            rw [hb] at hd
            have hsee : seesL S id k0 (some cs) true k = withL S id k0 (some cs) k := by unfold seesL withL; rw [Bool.true_and]
            rw [hsee] at hd
            rw [hLft] at H0
            refine step_sound hE (hc w0 hok) H0 T ho hd fun κ w' v' g1 g2 g3 => next κ w' v' g1 g3 ?_
            unfold StandL
            rw [hLf', hLft, Option.isSome_some, Bool.true_and, cond_true, hk']
            by_cases hkk : k' = k
            · simp only [if_pos hkk] at g2
              rw [hkk]; exact g2
            · simp only [if_neg hkk] at g2
              rcases hcase with h1 | ⟨h1, h2⟩
              · exact absurd h1 hkk
              · have := h2.1 hb
                have hbn : Nat.ble k' k0 = false := by
                  cases hq : Nat.ble k' k0 with
                  | false => rfl
                  | true => have := ble hq; omega
                unfold withL
                rw [hbn, cond_false]
                exact g2
          | false =>
            rw [hb] at hd
            have hsee : seesL S id k0 (some cs) false k = S k := by unfold seesL; rw [Bool.false_and, cond_false]
            rw [hsee] at hd
            have htarget : (if k' = k then S k else S k') = S k' := by split <;> simp_all
            rw [htarget] at hd
            cases hLf : L f with
            | false => exact plain (.inl hLf) (by rw [hb]; exact hsee)
            | true =>
              rw [hLf] at H0
              unfold StandL at H0
              rw [Option.isSome_some, Bool.true_and, cond_true] at H0
              by_cases hkk0 : k ≤ k0
              · have hw1 : withL S id k0 (some cs) k = (S k).set id (.cells cs .own) := by unfold withL; rw [show Nat.ble k k0 = true from Nat.ble_eq_true_of_le hkk0, cond_true]; rfl
                rw [hw1] at H0
                have hk'0 : k' ≤ k0 := by
                  rcases hcase with h1 | ⟨h1, h2⟩
                  · omega
                  · have : ¬ k0 ≤ k := fun h => by rw [h2.2 h] at hb; cases hb
                    omega
                obtain ⟨p, c, ty, fz, hp, Hh, hor⟩ := H0.hide (hs.low k hkk0)
                refine step_sound hE (hc (w0.keep p.blk (.cells c ty fz)) hok) Hh T ho hd fun κ w' v' g1 g2 g3 => next κ w' v' g1 g3 ?_
                unfold StandL
                rw [hLf', hLf, Option.isSome_some, Bool.true_and, cond_true, hk']
                unfold withL
                rw [show Nat.ble k' k0 = true from Nat.ble_eq_true_of_le hk'0, cond_true]
                exact g2.look (hs.low k' hk'0) (g1 _ _ hp) (fun w2 hw2 => hor κ w2 g1 hw2)
              · have hbn : ∀ j, k ≤ j → Nat.ble j k0 = false := fun j hj => by
                  cases hq : Nat.ble j k0 with
                  | false => rfl
                  | true => have := ble hq; omega
                have hw1 : withL S id k0 (some cs) k = S k := by unfold withL; rw [hbn k (Nat.le_refl _), cond_false]
                rw [hw1] at H0
                refine step_sound hE (hc w0 hok) H0 T ho hd fun κ w' v' g1 g2 g3 => next κ w' v' g1 g3 ?_
                unfold StandL
                rw [hLf', hLf, Option.isSome_some, Bool.true_and, cond_true, hk']
                unfold withL
                rw [hbn k' (by rcases hcase with h1 | ⟨h1, _⟩ <;> omega), cond_false]
                exact g2
        cases he : effB E o.op with
        | true =>
          have hXi : effX E ops f i = true := by rw [effX_some ho, he, _root_.Go.Zs.T.beq_false hif]; rfl
          have hpos : cntL (effX E ops f) L ops.size = cntL (effX E ops f) (fun _ => true) i := by
            rw [← cntL_prefix (i := i) ops.size (by omega)]
            refine cntL_congr _ fun j hj hF => ?_
            obtain ⟨u, hu⟩ : ∃ u, ops[j]? = some u := ⟨ops[j], Array.getElem?_eq_getElem hj⟩
            have hb := hf.eff i j hXi hF
            rcases Nat.lt_trichotomy j i with h1 | h1 | h1
            · rw [hdown j (hb.1 h1)]; simp [h1]
            · subst h1; rw [hLi]; simp
            · have : L j = false := by
                cases hq : L j with
                | false => rfl
                | true => exact (hup j u hu hq (hb.2 h1)).elim
              rw [this]; simp; omega
          refine go _ _ hpos rfl (.inr ⟨by rw [cntL_add hLi ops.size hin, hpos, hXi]; rfl, hs.chain i o ho hXi⟩) ?_
          have hne : ¬ cntL (effX E ops f) (addL L i) ops.size = cntL (effX E ops f) (fun _ => true) i := by
            rw [cntL_add hLi ops.size hin, hpos, hXi]; simp
          rw [if_neg hne, dStep_congr hlook, cntL_add hLi ops.size hin, hpos, hXi]
          exact hs.eff i o ho hXi
        | false =>
          have hXi : effX E ops f i = false := by rw [effX_some ho, he]; rfl
          have heq : cntL (effX E ops f) (addL L i) ops.size = cntL (effX E ops f) L ops.size := by rw [cntL_add hLi ops.size hin, hXi]; rfl
          refine go _ _ rfl heq (.inl rfl) ?_
          rw [if_pos rfl, dStep_congr hlook]
          refine hs.quiet i o ho hif he _ (cntL_mono _ fun j hj _ hb => hdown j hb) ?_
          refine cntL_apart _ fun j hj _ hLj hb => ?_
          obtain ⟨u, hu⟩ : ∃ u, ops[j]? = some u := ⟨ops[j], Array.getElem?_eq_getElem hj⟩
          exact hup j u hu hLj hb

theorem chkL_spec {ms : List Nat} (hms : ms = masks ops.toList []) {id k0 m : Nat} {cs : Option (List V)} {snaps : List Heap} {effs : List Nat} : ∀ (l : List Oper) (i : Nat) (t : Tm) (vs : List V) (p : Nat) (t' : Tm), chkL E call N ops ms f id k0 m cs snaps effs l i t vs p = some t' →
    ops.toList.drop i = l → (∀ j x, vs[j]? = some x → v (i + j) = x) → t = tmL ops N t0 v (fun _ => true) i → p = cntL (effX E ops f) (fun _ => true) i →
    t' = tmL ops N t0 v (fun _ => true) (i + l.length) ∧ ∀ j o, l[j]? = some o →
      (i + j = f → (∀ c, cs = some c → wantedV ops o (tmL ops N t0 v (fun _ => true) (i + j)) = some true ∧ ∃ r, dOp E call o.op (tmL ops N t0 v (fun _ => true) (i + j)) ⟨id, .leaf⟩ = some r ∧ r.1 = v (i + j) ∧ r.2.get id = some (.cells c .own)) ∧
        (cs = none → wantedV ops o (tmL ops N t0 v (fun _ => true) (i + j)) = some false ∧ v (i + j) = .undef)) ∧
      (i + j ≠ f → effB E o.op = true → (bitOf ops (i + j) f = true ↔ k0 ≤ cntL (effX E ops f) (fun _ => true) (i + j)) ∧
        dStep E call ops o ⟨tmL ops N t0 v (fun _ => true) (i + j), viewL snaps id k0 cs (bitOf ops (i + j) f) (cntL (effX E ops f) (fun _ => true) (i + j))⟩ = some (v (i + j), snapAt snaps (cntL (effX E ops f) (fun _ => true) (i + j) + 1))) ∧
      (i + j ≠ f → effB E o.op = false → ∀ k, k ≤ m → countB effs (fun x => bitOf ops (i + j) x) ≤ k → k + countB effs (fun x => bitOf ops x (i + j)) ≤ m →
        dStep E call ops o ⟨tmL ops N t0 v (fun _ => true) (i + j), viewL snaps id k0 cs (bitOf ops (i + j) f) k⟩ = some (v (i + j), viewL snaps id k0 cs (bitOf ops (i + j) f) k))
  | [], i, t, [], p, t', h, hl, hv, ht, hp => by
    simp only [chkL] at h
    cases h
    exact ⟨ht, fun j o h => by simp at h⟩
  | [], _, _, _ :: _, _, _, h, _, _, _, _ => by simp [chkL] at h
  | _ :: _, _, _, [], _, _, h, _, _, _, _ => by simp [chkL] at h
  | o :: l, i, t, u :: vs, p, t', h, hl, hv, ht, hp => by
    simp only [chkL] at h
    obtain ⟨hc, h1⟩ := bif_some h
    have ho : ops[i]? = some o := by
      have : (ops.toList.drop i)[0]? = some o := by rw [hl]; rfl
      rw [List.getElem?_drop] at this
      simpa using this
    have hu : v i = u := by simpa using hv 0 u rfl
    have hbit : ∀ a b, (ms.getD a 0).testBit b = bitOf ops a b := fun a b => by rw [hms]; rfl
    have hdst : dstOf ops i = o.dst := by simp [dstOf, ho]
    have ht' : putV N t o.dst u = tmL ops N t0 v (fun _ => true) (i + 1) := by
      simp only [tmL, cond_true]
      rw [hdst, hu, ht]
    have hp' : (bif effB E o.op && !Nat.beq i f then p + 1 else p) = cntL (effX E ops f) (fun _ => true) (i + 1) := by
      simp only [cntL, Bool.and_true, effX_some ho]
      rw [hp]
      cases effB E o.op && !Nat.beq i f <;> rfl
    rw [hp'] at h1
    obtain ⟨i1, i2⟩ := chkL_spec hms l (i + 1) _ vs _ t' h1 (by rw [← List.drop_drop, hl]; rfl) (fun j x hx => by
      have := hv (j + 1) x (by simpa using hx)
      rw [← this]; congr 1; omega) ht' rfl
    refine ⟨by rw [i1]; congr 1; simp; omega, fun j o' hj => ?_⟩
    cases j with
    | succ j =>
      have := i2 j o' (by simpa using hj)
      rw [show i + (j + 1) = i + 1 + j from by omega]
      exact this
    | zero =>
      simp at hj; subst hj
      rw [Nat.add_zero, ← ht, hu]
      simp only [hbit] at hc
      refine ⟨fun hif => ?_, fun hif he => ?_, fun hif he k hk1 hk2 hk3 => ?_⟩
      · rw [_root_.Go.Zs.T.beq_true hif, cond_true] at hc
        split at hc
        · rename_i cs1 hw
          refine ⟨fun c hcc => ?_, fun h => (by cases h)⟩
          cases hcc
          split at hc
          · rename_i r hr
            simp only [Bool.and_eq_true] at hc
            have e1 := V.same_eq _ _ hc.1
            have e2 := hc.2
            split at e2
            · rename_i cs' hg
              exact ⟨hw, r, hr, e1, by rw [hg, V.sames_eq _ _ e2]⟩
            · cases e2
          · cases hc
        · rename_i hw
          exact ⟨fun c h => (by cases h), fun _ => ⟨hw, (V.same_eq _ _ hc).symm⟩⟩
        · cases hc
      · rw [_root_.Go.Zs.T.beq_false hif, cond_false, he, cond_true, Bool.and_eq_true] at hc
        obtain ⟨c1, c2⟩ := hc
        split at c2
        · rename_i r hr
          simp only [Bool.and_eq_true] at c2
          have e1 := V.same_eq _ _ c2.1
          have e2 := Heap.same_eq _ _ c2.2
          rw [← hp]
          refine ⟨?_, by rw [hr, ← e1, ← e2]⟩
          have := eq_of_beq c1
          constructor
          · intro hb; rw [hb] at this; exact ble this.symm
          · intro hle; rw [this]; exact Nat.ble_eq_true_of_le hle
        · cases c2
      · rw [_root_.Go.Zs.T.beq_false hif, cond_false, he, cond_false, List.all_eq_true] at hc
        have := hc k (List.mem_range.2 (by omega))
        rw [Nat.ble_eq_true_of_le hk2, Nat.ble_eq_true_of_le hk3, Bool.and_self, cond_true] at this
        split at this
        · rename_i r hr
          have e1 := V.same_eq _ _ this
          have e2 := dStep_heap he hr
          rw [hr, ← e1]
          congr 1
          exact Prod.ext rfl e2
        · cases this

theorem late_sound (hE : EnvOK E) (hc : ∀ w0 : Base, w0.ok = okRound E → CallOK E w0 call) (hok : w0.ok = okRound E) (hl : okLate E ops f = true) {Q : Exit → Act → World → Prop} {ι : Emb} {s s' : St} {a : Act} {w : World} {rid : Nat} (H : HR w0 ι s.h w) (T : TR ι N s.t a.tmps)
    (hd : dLate E call N ops f s = some s') (hQ : ∀ κ a' w', Emb.le ι κ → HR w0 κ s'.h w' → TR κ N s'.t a'.tmps → a'.defers = a.defers → Q .normal a' w') : (Code.region rid ops true).wpIn (Fen ro) 0 E.P Q a w := by
  unfold dLate at hd
  simp only at hd
  generalize hk0 : countB (effIdxL E ops f) (fun i => !((masks ops.toList []).getD i 0).testBit f) = k0 at hd
  obtain ⟨⟨vs, snaps, cs⟩, hp, hd1⟩ := bind_some hd
  obtain ⟨hchk, hd2⟩ := bif_some hd1
  obtain ⟨t', ht', rfl⟩ := map_some hd2
  simp only [Bool.and_eq_true] at hchk
  have hS0 := Heap.same_eq _ _ hchk.1
  have hf := fineL_of hl
  let v : Nat → V := fun i => vs.getD i .undef
  obtain ⟨c1, c2⟩ := chkL_spec (v := v) (t0 := s.t) rfl ops.toList 0 s.t vs 0 t' ht' rfl (fun j x hx => by simp [v, List.getD, hx]) rfl rfl
  simp only [Nat.zero_add, Array.length_toList] at c1 c2
  have get : ∀ (i : Nat) (o : Oper), ops[i]? = some o → ops.toList[i]? = some o := fun i o h => by rw [Array.getElem?_toList]; exact h
  have cnt : ∀ q : Nat → Bool, countB (effIdxL E ops f) q = cntL (effX E ops f) q ops.size := fun q => countB_eq _ _ _
  have hlen : (effIdxL E ops f).length = cntL (effX E ops f) (fun _ => true) ops.size := by
    have := cnt fun _ => true
    unfold countB at this
    rw [List.filter_eq_self.2 (fun _ _ => rfl)] at this
    exact this
  have hs : StepsL E call ops (bitOf ops) N s.t v (fun k => snapAt snaps k) f s.h.next k0 cs := by
    refine ⟨fun i o ho hX => ?_, fun i o ho hX => ?_, fun i o ho hif he k h1 h2 => ?_, fun o ho => ?_, fun k hk => ?_⟩
    · have hX' := hX
      rw [effX_some ho] at hX'
      simp only [Bool.and_eq_true, Bool.not_eq_true'] at hX'
      exact ((c2 i o (get i o ho)).2.1 (fun h => by rw [_root_.Go.Zs.T.beq_true h] at hX'; cases hX'.2) hX'.1).2
    · have hX' := hX
      rw [effX_some ho] at hX'
      simp only [Bool.and_eq_true, Bool.not_eq_true'] at hX'
      exact ((c2 i o (get i o ho)).2.1 (fun h => by rw [_root_.Go.Zs.T.beq_true h] at hX'; cases hX'.2) hX'.1).1
    · refine (c2 i o (get i o ho)).2.2 hif he k (by rw [hlen]; omega) (by rw [cnt]; exact h1) (by rw [cnt, hlen]; exact h2)
    · exact (c2 f o (get f o ho)).1 rfl
    · have := List.all_eq_true.1 hchk.2 k (List.mem_range.2 (by omega))
      simpa using this
  have hrs : s.h.next ∉ w0.rs := fun hm => by have := (H.rv _ hm).2; omega
  refine wpIn_region_any hE.mixed ?_
  have hz : ∀ j, (Array.replicate ops.size false).getD j false = false := by
    intro j
    rw [Array.getD_eq_getD_getElem?, Array.getElem?_replicate]
    split <;> rfl
  have hzf : (fun j => (Array.replicate ops.size false).getD j false) = fun _ => false := funext hz
  have hc0 : ∀ k, cntL (effX E ops f) (fun _ => false) k = 0 := by
    intro k
    induction k with
    | zero => rfl
    | succ k ih => simp [cntL, ih]
  have ht0 : ∀ k, tmL ops N s.t v (fun _ => false) k = s.t := by
    intro k
    induction k with
    | zero => rfl
    | succ k ih => simp only [tmL, cond_false]; exact ih
  have hun : unL (fun _ => false) ops.size = ops.size := by
    have : ∀ k, unL (fun _ => false) k = k := by
      intro k
      induction k with
      | zero => rfl
      | succ k ih => unfold unL at *; simp only [cntL]; rw [ih]; rfl
    exact this _
  refine draw_late hE hc hok hrs hf hs a.defers ops.size (Array.replicate ops.size false) ι a w.drew (by simp) ?_ ?_ ?_ ?_ rfl ?_
  · intro j u _ hj
    rw [hz] at hj; cases hj
  · rw [hzf, hun]; exact Nat.le_refl _
  · rw [hzf, hc0, hz]
    unfold StandL
    rw [Bool.false_and, cond_false]
    show HR (w0.res s.h.next) ι (snapAt snaps 0) w.drew
    rw [hS0]
    exact H.reserve.drew
  · rw [hzf, ht0]; exact T
  · intro κ a' w' h1 h2 h3 h4
    refine hQ κ a' w' h1 ?_ ?_ h4
    · show HR w0 κ (viewL snaps s.h.next k0 cs true (effIdxL E ops f).length) w'
      rw [hlen]
      unfold viewL
      rw [Bool.true_and]
      exact h2
    · show TR κ N t' a'.tmps
      rw [c1]; exact h3

theorem any_sound (hE : EnvOK E) (hc : ∀ w0 : Base, w0.ok = okRound E → CallOK E w0 call) (hok : w0.ok = okRound E) (hl : okAny E ops = true) {Q : Exit → Act → World → Prop} {ι : Emb} {s s' : St} {a : Act} {w : World} {rid : Nat} (H : HR w0 ι s.h w) (T : TR ι N s.t a.tmps)
    (hd : dAny E call N ops s = some s') (hQ : ∀ κ a' w', Emb.le ι κ → HR w0 κ s'.h w' → TR κ N s'.t a'.tmps → a'.defers = a.defers → Q .normal a' w') : (Code.region rid ops true).wpIn (Fen ro) 0 E.P Q a w := by
  unfold dAny at hd
  unfold okAny at hl
  cases hq : lateOf E ops with
  | none =>
    rw [hq] at hd hl
    exact draw_sound hE (hc w0 hok) hl H T hd hQ
  | some f =>
    rw [hq] at hd hl
    exact late_sound hE hc hok hl H T hd hQ

end late
end Go.Zs
