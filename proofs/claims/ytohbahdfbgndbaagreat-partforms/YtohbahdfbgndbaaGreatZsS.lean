/- A sound evaluator for the model's programs, nineteenth part: whatever the order, a region comes to one end. -/
import Derived.Test.YtohbahdfbgndbaaGreatZsR
namespace Go.Zs
open Go Go.RowKit

/-- How many of the first are marked by both. -/
def cntL (F L : Nat → Bool) : Nat → Nat
  | 0 => 0
  | k + 1 => cntL F L k + (bif F k && L k then 1 else 0)

theorem cntL_mono {F A B : Nat → Bool} : ∀ k, (∀ j, j < k → F j = true → A j = true → B j = true) → cntL F A k ≤ cntL F B k
  | 0, _ => Nat.le_refl _
  | k + 1, h => by
    have ih := cntL_mono k fun j hj => h j (by omega)
    simp only [cntL]
    have := h k (by omega)
    cases hF : F k <;> cases hA : A k <;> cases hB : B k <;> simp_all <;> omega

theorem cntL_congr {F A B : Nat → Bool} (k : Nat) (h : ∀ j, j < k → F j = true → A j = B j) : cntL F A k = cntL F B k :=
  Nat.le_antisymm (cntL_mono k fun j hj hF hA => by rw [← h j hj hF]; exact hA) (cntL_mono k fun j hj hF hB => by rw [h j hj hF]; exact hB)

theorem cntL_apart {F A B : Nat → Bool} : ∀ k, (∀ j, j < k → F j = true → A j = true → B j = true → False) → cntL F A k + cntL F B k ≤ cntL F (fun _ => true) k
  | 0, _ => Nat.le_refl _
  | k + 1, h => by
    have ih := cntL_apart k fun j hj => h j (by omega)
    simp only [cntL]
    have := h k (by omega)
    cases hF : F k <;> cases hA : A k <;> cases hB : B k <;> simp_all <;> omega

theorem cntL_prefix {F : Nat → Bool} {i : Nat} : ∀ k, i ≤ k → cntL F (fun j => decide (j < i)) k = cntL F (fun _ => true) i := by
  intro k hk
  induction k with
  | zero => have : i = 0 := by omega
            subst this; rfl
  | succ k ih =>
    by_cases h : i ≤ k
    · simp only [cntL]
      rw [ih h]
      have e : decide (k < i) = false := by simp; omega
      simp [e]
    · have : i = k + 1 := by omega
      subst this
      exact cntL_congr _ fun j hj _ => by simp; omega

theorem cntL_add {F L : Nat → Bool} {i : Nat} (hi : L i = false) : ∀ k, i < k → cntL F (addL L i) k = cntL F L k + (bif F i then 1 else 0) := by
  intro k hk
  induction k with
  | zero => omega
  | succ k ih =>
    by_cases h : k = i
    · subst h
      have : cntL F (addL L k) k = cntL F L k := cntL_congr _ fun j hj _ => addL_ne L (by omega)
      simp only [cntL]
      rw [this, addL_same, hi]
      cases F k <;> simp
    · simp only [cntL]
      rw [ih (by omega), addL_ne L h]
      omega

section draw
variable {E : Env} {ops : Array Oper} {N : Nat} {t0 : Tm} {v : Nat → V} {w0 : Base} {ro : Option Nat}

def effAt (E : Env) (ops : Array Oper) (i : Nat) : Bool := match ops[i]? with | some o => effB E o.op | none => false

theorem effAt_some {i : Nat} {o : Oper} (h : ops[i]? = some o) : effAt E ops i = effB E o.op := by simp [effAt, h]

/-- The steps of the text's order, and that those which turn nothing are steady. -/
structure Steps (E : Env) (call : CallF) (ops : Array Oper) (bit : Nat → Nat → Bool) (N : Nat) (t0 : Tm) (v : Nat → V) (S : Nat → Heap) : Prop where
  eff : ∀ i o, ops[i]? = some o → effB E o.op = true → dStep E call ops o ⟨tmL ops N t0 v (fun _ => true) i, S (cntL (effAt E ops) (fun _ => true) i)⟩ = some (v i, S (cntL (effAt E ops) (fun _ => true) i + 1))
  quiet : ∀ i o, ops[i]? = some o → effB E o.op = false → ∀ k, cntL (effAt E ops) (fun j => bit i j) ops.size ≤ k → k + cntL (effAt E ops) (fun j => bit j i) ops.size ≤ cntL (effAt E ops) (fun _ => true) ops.size →
    dStep E call ops o ⟨tmL ops N t0 v (fun _ => true) i, S k⟩ = some (v i, S k)

def unL (L : Nat → Bool) (n : Nat) : Nat := cntL (fun j => !L j) (fun _ => true) n

theorem unL_add {L : Nat → Bool} {i : Nat} (hi : L i = false) : ∀ n, i < n → unL (addL L i) n + 1 = unL L n := by
  intro n hn
  induction n with
  | zero => omega
  | succ k ih =>
    unfold unL at *
    simp only [cntL]
    by_cases h : k = i
    · subst h
      have low : ∀ m, m ≤ k → cntL (fun j => !addL L k j) (fun _ => true) m = cntL (fun j => !L j) (fun _ => true) m := by
        intro m
        induction m with
        | zero => intro _; rfl
        | succ m ihm =>
          intro hm
          simp only [cntL]
          rw [ihm (by omega), addL_ne L (show m ≠ k from by omega)]
      rw [low k (Nat.le_refl _), addL_same, hi]
      rfl
    · rw [addL_ne L h]
      have := ih (by omega)
      omega

theorem unL_zero {L : Nat → Bool} : ∀ n, unL L n = 0 → ∀ j, j < n → L j = true := by
  intro n
  induction n with
  | zero => intro _ j hj; omega
  | succ k ih =>
    intro h j hj
    unfold unL at *
    simp only [cntL] at h
    by_cases hk : j = k
    · subst hk
      cases hL : L j with
      | true => rfl
      | false => rw [hL] at h; simp at h
    · exact ih (by omega) j (by omega)

theorem unL_pos {L : Nat → Bool} : ∀ n, unL L n ≠ 0 → ∃ j, j < n ∧ L j = false ∧ ∀ k, k < j → L k = true := by
  intro n
  induction n with
  | zero => intro h; exact absurd rfl h
  | succ k ih =>
    intro h
    by_cases h0 : unL L k = 0
    · refine ⟨k, by omega, ?_, unL_zero k h0⟩
      unfold unL at *
      simp only [cntL, h0] at h
      cases hL : L k with
      | false => rfl
      | true => rw [hL] at h; simp at h
    · obtain ⟨j, h1, h2, h3⟩ := ih h0
      exact ⟨j, by omega, h2, h3⟩

theorem draw_any (hE : EnvOK E) {call : CallF} (hc : CallOK E w0 call) {bit : Nat → Nat → Bool} (hf : Fine E ops bit) {S : Nat → Heap} (hs : Steps E call ops bit N t0 v S) {Q : Exit → Act → World → Prop} (defs : List Deferred) :
    ∀ (fuel : Nat) (listed : Array Bool) (ι : Emb) (a : Act) (w : World), listed.size = ops.size →
      (∀ j u, ops[j]? = some u → listed.getD j false = true → ∀ e ∈ u.after, Region.binds .any e = true → listed.getD e.on false = true) →
      unL (fun j => listed.getD j false) ops.size ≤ fuel →
      HR w0 ι (S (cntL (effAt E ops) (fun j => listed.getD j false) ops.size)) w → TR ι N (tmL ops N t0 v (fun j => listed.getD j false) ops.size) a.tmps → a.defers = defs →
      (∀ κ a' w', Emb.le ι κ → HR w0 κ (S (cntL (effAt E ops) (fun _ => true) ops.size)) w' → TR κ N (tmL ops N t0 v (fun _ => true) ops.size) a'.tmps → a'.defers = defs → Q .normal a' w') →
      wpAnyIn (Fen ro) 0 E.P .any ops Q fuel listed a w := by
  intro fuel
  induction fuel with
  | zero =>
    intro listed ι a w hsz hcl hun H T hdef hQ
    have hall := unL_zero _ (Nat.le_zero.1 hun)
    refine ⟨?_, hQ ι a w (Emb.le_refl ι) ?_ ?_ hdef⟩
    · cases hr : Region.ready .any ops listed with
      | nil => rfl
      | cons i l =>
        have : i ∈ Region.ready .any ops listed := by rw [hr]; exact List.mem_cons_self ..
        obtain ⟨h0, o, ho, _⟩ := mem_ready.1 this
        have hi : i < ops.size := (Array.getElem?_eq_some_iff.1 ho).1
        have := hall i hi
        have hi2 : i < listed.size := by omega
        simp [hi2] at h0 this
        rw [h0] at this; cases this
    · rw [cntL_congr ops.size (B := fun _ => true) fun j hj _ => hall j hj] at H; exact H
    · refine ⟨T.size, fun k => ?_⟩
      rw [← tmL_agree (L := fun j => listed.getD j false) ops.size fun j hj _ => hall j hj]
      exact T.get k
  | succ fuel ih =>
    intro listed ι a w hsz hcl hun H T hdef hQ
    refine ⟨fun hr => ?_, fun i hi => ?_⟩
    · -- none is ready: all are listed
      by_cases h0 : unL (fun j => listed.getD j false) ops.size = 0
      · have hall := unL_zero _ h0
        refine hQ ι a w (Emb.le_refl ι) ?_ ?_ hdef
        · rw [cntL_congr ops.size (B := fun _ => true) fun j hj _ => hall j hj] at H; exact H
        · refine ⟨T.size, fun k => ?_⟩
          rw [← tmL_agree (L := fun j => listed.getD j false) ops.size fun j hj _ => hall j hj]
          exact T.get k
      · exfalso
        obtain ⟨j, hj, hL, hlow⟩ := unL_pos _ h0
        obtain ⟨o, ho⟩ : ∃ o, ops[j]? = some o := ⟨ops[j], Array.getElem?_eq_getElem hj⟩
        have : j ∈ Region.ready .any ops listed := by
          refine mem_ready.2 ⟨?_, o, ho, fun e he hb => hlow e.on (hf.back j o ho e he hb)⟩
          have hj2 : j < listed.size := by omega
          simp [hj2] at hL ⊢
          exact hL
        rw [hr] at this; cases this
    · obtain ⟨h0, o, ho, hdeps⟩ := mem_ready.1 hi
      have hin : i < ops.size := (Array.getElem?_eq_some_iff.1 ho).1
      have hi2 : i < listed.size := by omega
      let L : Nat → Bool := fun j => listed.getD j false
      have hLi : L i = false := by simp [L, hi2] at h0 ⊢; exact h0
      have hclo := hf.clo L hcl
      have hdown := hclo i o ho hdeps
      have hup : ∀ j u, ops[j]? = some u → L j = true → bit j i = true → False := by
        intro j u hj hL hb
        have := hclo j u hj (hcl j u hj hL) i hb
        rw [hLi] at this; cases this
      have hL' : ∀ j, (listed.setIfInBounds i true).getD j false = addL L i j := by
        intro j
        by_cases hj : j = i
        · subst hj
          rw [addL_same]
          simp [hi2]
        · rw [addL_ne L hj, getD_set_ne false (Ne.symm hj)]
      have hcl' : ∀ j u, ops[j]? = some u → (listed.setIfInBounds i true).getD j false = true → ∀ e ∈ u.after, Region.binds .any e = true → (listed.setIfInBounds i true).getD e.on false = true := by
        intro j u hj hLj e he hb
        by_cases hji : j = i
        · subst hji
          rw [ho] at hj; cases hj
          exact getD_set_true (hdeps e he hb)
        · rw [hL', addL_ne L hji] at hLj
          exact getD_set_true (hcl j u hj hLj e he hb)
      have hun' : unL (fun j => (listed.setIfInBounds i true).getD j false) ops.size ≤ fuel := by
        have e : (fun j => (listed.setIfInBounds i true).getD j false) = addL L i := funext hL'
        rw [e]
        have := unL_add hLi ops.size hin
        have h2 : unL L ops.size ≤ fuel + 1 := hun
        omega
      -- the slots that it looks at are as in the text's order
      have hlook : ∀ d ∈ o.looksAt ops, (tmL ops N t0 v L ops.size).get d = (tmL ops N t0 v (fun _ => true) i).get d := by
        intro d hd
        rw [← tmL_prefix (i := i) ops.size (by omega)]
        refine tmL_agree ops.size fun j hj hdst => ?_
        obtain ⟨u, hu⟩ : ∃ u, ops[j]? = some u := ⟨ops[j], Array.getElem?_eq_getElem hj⟩
        have hud : u.dst = some d := by simpa [dstOf, hu] using hdst
        rcases hf.read i j o u d ho hu hud hd with ⟨h1, h2⟩ | ⟨h1, h2⟩
        · rw [hdown j h2]; simp [h1]
        · have : L j = false := by
            cases hq : L j with
            | false => rfl
            | true => exact (hup j u hu hq h2).elim
          rw [this]; simp; omega
      -- one step more
      have step : ∀ r, r.1 = v i → r.2 = S (cntL (effAt E ops) (addL L i) ops.size) → dStep E call ops o ⟨tmL ops N t0 v L ops.size, S (cntL (effAt E ops) L ops.size)⟩ = some r →
          wpOpIn (Fen ro) 0 E.P ops Q i (wpAnyIn (Fen ro) 0 E.P .any ops Q fuel (listed.setIfInBounds i true)) a w := by
        intro r hr1 hr2 hd
        refine step_sound hE hc H T ho hd fun κ w' v' g1 g2 g3 => ?_
        have e : (fun j => (listed.setIfInBounds i true).getD j false) = addL L i := funext hL'
        refine ih (listed.setIfInBounds i true) κ _ w' (by simp [hsz]) hcl' hun' ?_ ?_ (by rw [← hdef]; cases o.dst <;> rfl) fun μ a' w'' f1 f2 f3 f4 => hQ μ a' w'' (g1.trans' f1) f2 f3 f4
        · rw [e, ← hr2]; exact g2
        · rw [e]
          rw [hr1] at g3
          have hput := (T.mono g1).put o.dst g3
          refine ⟨hput.size, fun k => ?_⟩
          have hadd := tmL_add (ops := ops) (N := N) (t0 := t0) (v := v) hLi (fun j hj hLj => by
            by_cases hnone : dstOf ops i = none
            · exact .inr hnone
            · refine .inl fun heq => ?_
              have hj2 : j < ops.size := by
                rcases Nat.lt_or_ge j ops.size with h | h
                · exact h
                · exfalso
                  have : listed.getD j false = false := by
                    have : ¬ j < listed.size := by omega
                    simp [this]
                  have h2 : listed.getD j false = true := hLj
                  rw [this] at h2; cases h2
              obtain ⟨u, hu⟩ : ∃ u, ops[j]? = some u := ⟨ops[j], Array.getElem?_eq_getElem hj2⟩
              obtain ⟨d, hd2⟩ : ∃ d, o.dst = some d := by
                cases hq : o.dst with
                | none => exact absurd (by simp [dstOf, ho, hq]) hnone
                | some d => exact ⟨d, rfl⟩
              have hud : u.dst = some d := by
                have : dstOf ops j = dstOf ops i := heq
                simpa [dstOf, ho, hu, hd2] using this
              exact hup j u hu hLj ((hf.same i j o u d ho hu hud hd2).2 hj)) ops.size hin k
          rw [hadd]
          have : dstOf ops i = o.dst := by simp [dstOf, ho]
          rw [this]
          exact hput.get k
      cases he : effB E o.op with
      | true =>
        have hpos : cntL (effAt E ops) L ops.size = cntL (effAt E ops) (fun _ => true) i := by
          rw [← cntL_prefix (i := i) ops.size (by omega)]
          refine cntL_congr _ fun j hj hF => ?_
          obtain ⟨u, hu⟩ : ∃ u, ops[j]? = some u := ⟨ops[j], Array.getElem?_eq_getElem hj⟩
          rw [effAt_some hu] at hF
          have hb := hf.eff i j o u ho hu he hF
          rcases Nat.lt_trichotomy j i with h1 | h1 | h1
          · rw [hdown j (hb.1 h1)]; simp [h1]
          · subst h1; rw [hLi]; simp
          · have : L j = false := by
              cases hq : L j with
              | false => rfl
              | true => exact (hup j u hu hq (hb.2 h1)).elim
            rw [this]; simp; omega
        refine step (v i, S (cntL (effAt E ops) (fun _ => true) i + 1)) rfl ?_ ?_
        · rw [cntL_add hLi ops.size hin, hpos, effAt_some ho, he]; rfl
        · rw [dStep_congr hlook, hpos]
          exact hs.eff i o ho he
      | false =>
        refine step (v i, S (cntL (effAt E ops) L ops.size)) rfl ?_ ?_
        · rw [cntL_add hLi ops.size hin, effAt_some ho, he]; rfl
        · rw [dStep_congr hlook]
          refine hs.quiet i o ho he _ (cntL_mono _ fun j hj _ hb => hdown j hb) ?_
          refine cntL_apart _ fun j hj _ hLj hb => ?_
          obtain ⟨u, hu⟩ : ∃ u, ops[j]? = some u := ⟨ops[j], Array.getElem?_eq_getElem hj⟩
          exact hup j u hu hLj hb

end draw
end Go.Zs
