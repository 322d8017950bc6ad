/- A sound evaluator for the model's programs, twentieth part: regions that draw their order, as they are reckoned. -/
import Derived.Test.YtohbahdfbgndbaaGreatZsS
namespace Go.Zs
open Go Go.RowKit

section
variable {E : Env} {ops : Array Oper} {N : Nat} {t0 : Tm} {v : Nat → V} {w0 : Base} {ro : Option Nat} {call : CallF}

def bitOf (ops : Array Oper) (i j : Nat) : Bool := ((masks ops.toList []).getD i 0).testBit j

theorem maskOf_bit {acc : List Nat} : ∀ (es : List Edge) (s j : Nat), (es.foldl (fun s e => bif Region.binds .any e then s ||| (2 ^ e.on ||| acc.getD e.on 0) else s) s).testBit j = true →
    s.testBit j = true ∨ ∃ e ∈ es, Region.binds .any e = true ∧ (j = e.on ∨ (acc.getD e.on 0).testBit j = true)
  | [], s, j, h => .inl h
  | e :: es, s, j, h => by
    rw [List.foldl_cons] at h
    rcases maskOf_bit es _ j h with h1 | ⟨e', h1, h2, h3⟩
    · cases hb : Region.binds .any e with
      | true =>
        rw [hb, cond_true] at h1
        simp only [Nat.testBit_or, Bool.or_eq_true, Nat.testBit_two_pow, decide_eq_true_eq] at h1
        rcases h1 with h1 | h1 | h1
        · exact .inl h1
        · exact .inr ⟨e, List.mem_cons_self .., hb, .inl h1.symm⟩
        · exact .inr ⟨e, List.mem_cons_self .., hb, .inr h1⟩
      | false => rw [hb] at h1; exact .inl h1
    · exact .inr ⟨e', List.mem_cons_of_mem _ h1, h2, h3⟩

theorem masks_clo (L : Nat → Bool) (hL : ∀ j u, ops[j]? = some u → L j = true → ∀ e ∈ u.after, Region.binds .any e = true → L e.on = true) : ∀ (l : List Oper) (acc : List Nat), ops.toList.drop acc.length = l →
    (∀ (i : Nat) (o : Oper) (m : Nat), ops[i]? = some o → acc[i]? = some m → (∀ e ∈ o.after, Region.binds .any e = true → L e.on = true) → ∀ j, m.testBit j = true → L j = true) →
    ∀ (i : Nat) (o : Oper) (m : Nat), ops[i]? = some o → (masks l acc)[i]? = some m → (∀ e ∈ o.after, Region.binds .any e = true → L e.on = true) → ∀ j, m.testBit j = true → L j = true
  | [], acc, _, ha => ha
  | u :: l, acc, hl, ha => by
    refine masks_clo L hL l (acc ++ [maskOf acc u]) (by rw [List.length_append, List.length_singleton, ← List.drop_drop, hl]; rfl) ?_
    intro i o m ho hm hdep j hj
    by_cases hi : i < acc.length
    · rw [List.getElem?_append_left hi] at hm
      exact ha i o m ho hm hdep j hj
    · rw [List.getElem?_append_right (by omega)] at hm
      have hi2 : i = acc.length := by
        have := (List.getElem?_eq_some_iff.1 hm).1
        simp at this; omega
      subst hi2
      simp at hm
      subst hm
      have hu : ops[acc.length]? = some u := by
        have : (ops.toList.drop acc.length)[0]? = some u := by rw [hl]; rfl
        rw [List.getElem?_drop] at this
        simpa using this
      rw [hu] at ho; cases ho
      rcases maskOf_bit u.after.toList 0 j hj with h1 | ⟨e, h1, h2, h3⟩
      · simp at h1
      · have he : e ∈ u.after := by simpa using h1
        have hon := hdep e he h2
        rcases h3 with rfl | h3
        · exact hon
        · cases hq : acc[e.on]? with
          | none => simp [List.getD, hq] at h3
          | some m' =>
            simp [List.getD, hq] at h3
            have hlt : e.on < acc.length := (List.getElem?_eq_some_iff.1 hq).1
            have hlt2 : acc.length < ops.size := (Array.getElem?_eq_some_iff.1 hu).1
            obtain ⟨o', ho'⟩ : ∃ o', ops[e.on]? = some o' := ⟨ops[e.on]'(by omega), Array.getElem?_eq_getElem _⟩
            exact ha e.on o' m' ho' hq (hL e.on o' ho' hon) j h3

theorem fine_of (h : okRegion E ops = true) : Fine E ops (bitOf ops) := by
  unfold okRegion at h
  simp only [List.all_eq_true, List.mem_range, Array.length_toList, Array.getElem?_toList] at h
  have get : ∀ i o, ops[i]? = some o → i < ops.size := fun i o ho => (Array.getElem?_eq_some_iff.1 ho).1
  have main : ∀ i o, ops[i]? = some o → (∀ e ∈ o.after, Region.binds .any e = true → e.on < i) ∧ ∀ j u, ops[j]? = some u →
      (∀ d, u.dst = some d → (d ∈ o.looksAt ops → (j < i ∧ bitOf ops i j = true) ∨ (i < j ∧ bitOf ops j i = true)) ∧ (o.dst = some d → (j < i → bitOf ops i j = true) ∧ (i < j → bitOf ops j i = true))) ∧
      (effB E o.op = true → effB E u.op = true → (j < i → bitOf ops i j = true) ∧ (i < j → bitOf ops j i = true)) := by
    intro i o ho
    have hi := h i (get i o ho)
    rw [ho] at hi
    simp only [Bool.and_eq_true] at hi
    obtain ⟨⟨h1, h2⟩, h3⟩ := hi
    have tri : ∀ {j : Nat} {z : Bool}, (bif Nat.blt j i then bitOf ops i j else bif Nat.blt i j then bitOf ops j i else z) = true → (j < i → bitOf ops i j = true) ∧ (i < j → bitOf ops j i = true) ∧ (j = i → z = true) := by
      intro j z hz
      refine ⟨fun hlt => ?_, fun hlt => ?_, fun heq => ?_⟩
      · rw [show Nat.blt j i = true from Nat.ble_eq_true_of_le hlt] at hz; exact hz
      · have : Nat.blt j i = false := by
          cases hb : Nat.blt j i
          · rfl
          · have := blt hb; omega
        rw [this, show Nat.blt i j = true from Nat.ble_eq_true_of_le hlt] at hz; exact hz
      · subst heq
        have : Nat.blt j j = false := by
          cases hb : Nat.blt j j
          · rfl
          · have := blt hb; omega
        rw [this] at hz; exact hz
    refine ⟨?_, fun j u hu => ?_⟩
    · intro e he hb
      have hh : (o.after.toList.all fun e => !Region.binds .any e || decide (e.on < i)) = true := h1
      rw [List.all_eq_true] at hh
      have := hh e (by simpa using he)
      rw [hb] at this
      simpa using this
    · have hj := List.all_eq_true.1 h3 j (List.mem_range.2 (get j u hu))
      rw [hu] at hj
      simp only [Bool.and_eq_true] at hj
      obtain ⟨g1, g2⟩ := hj
      refine ⟨fun d hd => ?_, fun e1 e2 => ?_⟩
      · rw [hd] at g1
        simp only [Bool.and_eq_true] at g1
        obtain ⟨k1, k2⟩ := g1
        refine ⟨fun hm => ?_, fun hs => ?_⟩
        · have : (o.looksAt ops).contains d = true := by simpa using hm
          rw [this, cond_true] at k1
          obtain ⟨a1, a2, a3⟩ := tri k1
          rcases Nat.lt_trichotomy j i with h4 | h4 | h4
          · exact .inl ⟨h4, a1 h4⟩
          · exact absurd (a3 h4) (by simp)
          · exact .inr ⟨h4, a2 h4⟩
        · have : (o.dst == some d) = true := by rw [hs]; simp
          rw [this, cond_true] at k2
          obtain ⟨a1, a2, _⟩ := tri k2
          exact ⟨a1, a2⟩
      · rw [e1, e2] at g2
        simp only [Bool.and_self, cond_true] at g2
        obtain ⟨a1, a2, _⟩ := tri g2
        exact ⟨a1, a2⟩
  exact {
    back := fun i o ho => (main i o ho).1
    read := fun i j o u d ho hu hd hl => (((main i o ho).2 j u hu).1 d hd).1 hl
    same := fun i j o u d ho hu hd hd2 => (((main i o ho).2 j u hu).1 d hd).2 hd2
    eff := fun i j o u ho hu h1 h2 => ((main i o ho).2 j u hu).2 h1 h2
    clo := fun L hL i o ho hdep j hb => by
      unfold bitOf at hb
      cases hq : (masks ops.toList [])[i]? with
      | none => simp [List.getD, hq] at hb
      | some m =>
        simp [List.getD, hq] at hb
        exact masks_clo L hL ops.toList [] rfl (by simp) i o m ho hq hdep j hb }

theorem pos_mono (F : Nat → Bool) {i j : Nat} (h : i ≤ j) : cntL F (fun _ => true) i ≤ cntL F (fun _ => true) j := by
  induction j with
  | zero => have : i = 0 := by omega
            subst this; exact Nat.le_refl _
  | succ j ih =>
    by_cases hi : i ≤ j
    · have := ih hi; simp only [cntL]; omega
    · have : i = j + 1 := by omega
      subst this; exact Nat.le_refl _

abbrev posAt (E : Env) (ops : Array Oper) (i : Nat) : Nat := cntL (effAt E ops) (fun _ => true) i

theorem posAt_succ {i : Nat} {o : Oper} (h : ops[i]? = some o) : posAt E ops (i + 1) = posAt E ops i + (bif effB E o.op then 1 else 0) := by
  simp only [posAt, cntL, effAt_some h, Bool.and_true]

instance : Inhabited Heap := ⟨⟨0, .leaf⟩⟩

theorem pass1_spec : ∀ (l : List Oper) (i : Nat) (s : St) (recs : List (Tm × V)) (snaps : List Heap) (fin : St), ops.toList.drop i = l → pass1 E call N ops l s = some (recs, snaps, fin) →
    (∀ j x, recs[j]? = some x → v (i + j) = x.2) → s.t = tmL ops N t0 v (fun _ => true) i →
    recs.length = l.length ∧ (∃ rest, snaps = s.h :: rest) ∧ snaps.length = posAt E ops (i + l.length) - posAt E ops i + 1 ∧
    fin.t = tmL ops N t0 v (fun _ => true) (i + l.length) ∧ fin.h = snaps.getD (posAt E ops (i + l.length) - posAt E ops i) default ∧
    ∀ j o, l[j]? = some o → (∃ vv, recs[j]? = some (tmL ops N t0 v (fun _ => true) (i + j), vv)) ∧
      dStep E call ops o ⟨tmL ops N t0 v (fun _ => true) (i + j), snaps.getD (posAt E ops (i + j) - posAt E ops i) default⟩ =
        some (v (i + j), snaps.getD (posAt E ops (i + j) - posAt E ops i + (bif effB E o.op then 1 else 0)) default)
  | [], i, s, recs, snaps, fin, hl, hp, hv, ht => by
    simp only [pass1] at hp
    cases hp
    refine ⟨rfl, ⟨[], rfl⟩, by simp, ht, by simp, fun j o h => by simp at h⟩
  | o :: l, i, s, recs, snaps, fin, hl, hp, hv, ht => by
    simp only [pass1] at hp
    obtain ⟨r, hr, hp1⟩ := bind_some hp
    obtain ⟨⟨recs', snaps', fin'⟩, hrest, hp2⟩ := map_some hp1
    cases hp2
    have ho : ops[i]? = some o := by
      have : (ops.toList.drop i)[0]? = some o := by rw [hl]; rfl
      rw [List.getElem?_drop] at this
      simpa using this
    have hv0 : v i = r.1 := by simpa using hv 0 (s.t, r.1) rfl
    have hdst : dstOf ops i = o.dst := by simp [dstOf, ho]
    have ht' : putV N s.t o.dst r.1 = tmL ops N t0 v (fun _ => true) (i + 1) := by
      simp only [tmL, cond_true]
      rw [hdst, hv0, ht]
    obtain ⟨a1, ⟨rest, a2⟩, a3, a4, a5, a6⟩ := pass1_spec l (i + 1) ⟨putV N s.t o.dst r.1, r.2⟩ recs' snaps' fin' (by rw [← List.drop_drop, hl]; rfl) hrest (fun j x hx => by
      have := hv (j + 1) x (by simpa using hx)
      rw [← this]; congr 1; omega) ht'
    have hps := posAt_succ (E := E) ho
    have hm := pos_mono (effAt E ops) (show i + 1 ≤ i + 1 + l.length from by omega)
    have e1 : i + (o :: l).length = i + 1 + l.length := by simp; omega
    rw [e1]
    cases he : effB E o.op with
    | true =>
      rw [he] at hps
      simp only [cond_true] at hps
      have hshift : ∀ k, posAt E ops (i + 1) ≤ k → (s.h :: snaps').getD (k - posAt E ops i) default = snaps'.getD (k - posAt E ops (i + 1)) default := by
        intro k hk
        rw [show k - posAt E ops i = (k - posAt E ops (i + 1)) + 1 from by omega]
        rfl
      refine ⟨by simp [a1], ⟨snaps', rfl⟩, ?_, a4, ?_, ?_⟩
      · show snaps'.length + 1 = _; unfold posAt at *; omega
      · rw [a5]; exact (hshift _ hm).symm
      · intro j o' hj
        cases j with
        | zero =>
          simp at hj; subst hj
          refine ⟨⟨r.1, by simp [ht]⟩, ?_⟩
          simp only [Nat.add_zero, Nat.sub_self, Nat.zero_add, cond_true]
          rw [he, ← ht, hv0]
          show dStep E call ops o ⟨s.t, s.h⟩ = some (r.1, snaps'.getD 0 default)
          rw [a2]; exact hr
        | succ j =>
          obtain ⟨⟨vv, b1⟩, b2⟩ := a6 j o' (by simpa using hj)
          rw [show i + (j + 1) = i + 1 + j from by omega]
          have hmj := pos_mono (effAt E ops) (show i + 1 ≤ i + 1 + j from by omega)
          refine ⟨⟨vv, by simpa using b1⟩, ?_⟩
          rw [cond_true, hshift _ hmj, show posAt E ops (i + 1 + j) - posAt E ops i + (bif effB E o'.op then 1 else 0) = (posAt E ops (i + 1 + j) + (bif effB E o'.op then 1 else 0)) - posAt E ops i from by unfold posAt at *; omega, hshift _ (by unfold posAt at *; omega),
            show posAt E ops (i + 1 + j) + (bif effB E o'.op then 1 else 0) - posAt E ops (i + 1) = posAt E ops (i + 1 + j) - posAt E ops (i + 1) + (bif effB E o'.op then 1 else 0) from by unfold posAt at *; omega]
          exact b2
    | false =>
      rw [he] at hps
      simp only [cond_false, Nat.add_zero] at hps
      have hh := dStep_heap he hr
      rw [← hps]
      refine ⟨by simp [a1], ⟨rest, by rw [cond_false, a2, hh]⟩, a3, a4, a5, ?_⟩
      intro j o' hj
      cases j with
      | zero =>
        simp at hj; subst hj
        refine ⟨⟨r.1, by simp [ht]⟩, ?_⟩
        simp only [Nat.add_zero, cond_false, hps, Nat.sub_self]
        rw [he, ← ht, hv0, a2]
        simp only [cond_false, Nat.add_zero]
        show dStep E call ops o ⟨s.t, r.2⟩ = some (r.1, r.2)
        rw [hh]
        refine hr.trans ?_
        rw [← hh]
      | succ j =>
        obtain ⟨⟨vv, b1⟩, b2⟩ := a6 j o' (by simpa using hj)
        rw [show i + (j + 1) = i + 1 + j from by omega]
        exact ⟨⟨vv, by simpa using b1⟩, b2⟩

theorem countB_eq (F p : Nat → Bool) : ∀ n, countB ((List.range n).filter F) p = cntL F p n
  | 0 => rfl
  | n + 1 => by
    have ih := countB_eq F p n
    unfold countB at *
    rw [List.range_succ, List.filter_append, List.filter_append, List.length_append, ih]
    simp only [cntL]
    cases hF : F n <;> cases hp : p n <;> simp [hF, hp]

theorem effIdx_eq : effIdx E ops.toList = (List.range ops.size).filter (effAt E ops) := by
  unfold effIdx
  simp only [Array.length_toList, Array.getElem?_toList]
  rfl

theorem pass2_spec {ms effs : List Nat} {m : Nat} {snaps : List Heap} : ∀ (l : List Oper) (recs : List (Tm × V)) (i : Nat), pass2 E call ops ms effs m snaps l recs i = true → ∀ j o, l[j]? = some o → effB E o.op = false →
    ∃ t vv, recs[j]? = some (t, vv) ∧ (stillB o.op = true ∨ steady E call ops o t vv snaps (countB effs fun k => (ms.getD (i + j) 0).testBit k) (m - countB effs fun k => (ms.getD k 0).testBit (i + j)) = true)
  | [], [], _, _, j, o, hj, _ => by simp at hj
  | [], _ :: _, _, h, _, _, _, _ => by simp [pass2] at h
  | _ :: _, [], _, h, _, _, _, _ => by simp [pass2] at h
  | u :: l, (t, vv) :: recs, i, h, j, o, hj, he => by
    simp only [pass2, Bool.and_eq_true] at h
    cases j with
    | zero =>
      simp at hj; subst hj
      rw [he, Bool.false_or, Bool.or_eq_true] at h
      exact ⟨t, vv, rfl, h.1⟩
    | succ j =>
      obtain ⟨t', v', h1, h2⟩ := pass2_spec l recs (i + 1) h.2 j o (by simpa using hj) he
      refine ⟨t', v', by simpa using h1, ?_⟩
      rw [show i + (j + 1) = i + 1 + j from by omega]
      exact h2

theorem steady_spec {o : Oper} {t : Tm} {u : V} {snaps : List Heap} {lo hi : Nat} (he : effB E o.op = false) (h : steady E call ops o t u snaps lo hi = true) (k : Nat) (h1 : lo ≤ k) (h2 : k ≤ hi) (h3 : k < snaps.length) :
    dStep E call ops o ⟨t, snaps.getD k default⟩ = some (u, snaps.getD k default) := by
  unfold steady at h
  rw [List.all_eq_true] at h
  have hm : snaps.getD k default ∈ (snaps.take (hi + 1)).drop lo := by
    rw [List.mem_iff_getElem?]
    refine ⟨k - lo, ?_⟩
    rw [List.getElem?_drop, List.getElem?_take, if_pos (by omega), show lo + (k - lo) = k from by omega]
    simp [List.getD, List.getElem?_eq_getElem h3]
  have := h _ hm
  split at this
  · rename_i r hr
    have e1 := V.same_eq _ _ this
    have e2 := dStep_heap he hr
    rw [hr, ← e1]
    congr 1
    exact Prod.ext rfl e2
  · cases this

theorem still_op {o : Op} (hs : stillB o = true) (t : Tm) : ∃ x : Option V, ∀ h, dOp E call o t h = keep h x := by
  cases o <;> first | (cases hs; done) | skip
  case move x => exact ⟨some (ev t x), fun _ => rfl⟩
  case assign x => exact ⟨some (ev t x), fun _ => rfl⟩
  case pick c a b =>
    refine ⟨match ev t c with | .bool true => some (ev t a) | .bool false => some (ev t b) | _ => none, fun h => ?_⟩
    simp only [dOp]
    cases ev t c <;> try rfl
    rename_i x; cases x <;> rfl
  case nilCheck x =>
    refine ⟨match ev t x with | .ptr (some a) => some (.ptr (some a)) | .fn f a b => some (.fn f a b) | _ => none, fun h => ?_⟩
    simp only [dOp]
    cases ev t x <;> try rfl
    rename_i x; cases x <;> rfl
  case unOp op xt x => exact ⟨_, fun _ => rfl⟩
  case extract x i => exact ⟨_, fun _ => rfl⟩
  case fieldAddr s x f => exact ⟨_, fun _ => rfl⟩
  case field s x f => exact ⟨_, fun _ => rfl⟩
  case indexAddr s x f => exact ⟨_, fun _ => rfl⟩
  case index s x f => exact ⟨_, fun _ => rfl⟩

theorem still_spec {o : Oper} {t : Tm} {u : V} {h : Heap} (hs : stillB o.op = true) (hd : dStep E call ops o ⟨t, h⟩ = some (u, h)) (h' : Heap) : dStep E call ops o ⟨t, h'⟩ = some (u, h') := by
  obtain ⟨x, hx⟩ := still_op (E := E) (call := call) hs t
  unfold dStep at *
  obtain ⟨w, hw, hd1⟩ := bind_some hd
  rw [hw]
  cases w with
  | false =>
    cases hd1
    rfl
  | true =>
    show dOp E call o.op t h' = _
    have hd2 : dOp E call o.op t h = some (u, h) := hd1
    rw [hx] at hd2 ⊢
    cases x with
    | none => cases hd2
    | some v => cases hd2; rfl

/-- A region that draws its order, as it is reckoned. -/
theorem draw_sound (hE : EnvOK E) (hc : CallOK E w0 call) (hok : okRegion E ops = true) {Q : Exit → Act → World → Prop} {ι : Emb} {s s' : St} {a : Act} {w : World} {id : Nat} (H : HR w0 ι s.h w) (T : TR ι N s.t a.tmps)
    (hd : dDraw E call N ops s = some s') (hQ : ∀ κ a' w', Emb.le ι κ → HR w0 κ s'.h w' → TR κ N s'.t a'.tmps → a'.defers = a.defers → Q .normal a' w') : (Code.region id ops true).wpIn (Fen ro) 0 E.P Q a w := by
  unfold dDraw at hd
  obtain ⟨⟨recs, snaps, fin⟩, hp, hd1⟩ := bind_some hd
  let v : Nat → V := fun i => ((recs[i]?).map (·.2)).getD .undef
  obtain ⟨a1, ⟨rest, a2⟩, a3, a4, a5, a6⟩ := pass1_spec (t0 := s.t) (v := v) ops.toList 0 s recs snaps fin rfl hp (fun j x hx => by simp [v, hx]) rfl
  have hp0 : posAt E ops 0 = 0 := rfl
  have hf := fine_of (E := E) hok
  simp only [Nat.zero_add, hp0, Nat.sub_zero, Array.length_toList] at a3 a4 a5 a6
  have get : ∀ (i : Nat) (o : Oper), ops[i]? = some o → ops.toList[i]? = some o := fun i o h => by rw [Array.getElem?_toList]; exact h
  have hfin : fin = s' ∧ (∀ i o, ops[i]? = some o → effB E o.op = false → ∀ k, cntL (effAt E ops) (fun j => bitOf ops i j) ops.size ≤ k → k + cntL (effAt E ops) (fun j => bitOf ops j i) ops.size ≤ cntL (effAt E ops) (fun _ => true) ops.size →
      dStep E call ops o ⟨tmL ops N s.t v (fun _ => true) i, snaps.getD k default⟩ = some (v i, snaps.getD k default)) := by
    dsimp only at hd1
    split at hd1
    · cases hd1
      refine ⟨rfl, fun i o ho he k _ hk => ?_⟩
      have hm : cntL (effAt E ops) (fun _ => true) ops.size = 0 := by
        simp only [List.length_singleton] at a3
        unfold posAt at a3
        omega
      have := (a6 i o (get i o ho)).2
      have hpi : posAt E ops i = 0 := by
        have := pos_mono (effAt E ops) (show i ≤ ops.size from Nat.le_of_lt (Array.getElem?_eq_some_iff.1 ho).1)
        unfold posAt; omega
      have hk0 : k = 0 := by omega
      rw [hpi, he] at this
      subst hk0
      exact this
    · obtain ⟨hp2, hd2⟩ := bif_some hd1
      cases hd2
      refine ⟨rfl, fun i o ho he k h1 h2 => ?_⟩
      obtain ⟨t, vv, h3, h4⟩ := pass2_spec ops.toList recs 0 hp2 i o (get i o ho) he
      obtain ⟨⟨vv', h5⟩, _⟩ := a6 i o (get i o ho)
      rw [h3] at h5
      cases h5
      have hv : v i = vv := by simp [v, h3]
      rw [hv]
      rcases h4 with hst | h4
      · have hq := (a6 i o (get i o ho)).2
        rw [he] at hq
        have := still_spec hst hq (snaps.getD k default)
        rw [hv] at this
        exact this
      rw [effIdx_eq] at h4
      rw [countB_eq, countB_eq] at h4
      have hlen : ((List.range ops.size).filter (effAt E ops)).length = cntL (effAt E ops) (fun _ => true) ops.size := by
        have := countB_eq (effAt E ops) (fun _ => true) ops.size
        unfold countB at this
        simpa using this
      rw [hlen] at h4
      simp only [Nat.zero_add] at h4
      refine steady_spec he h4 k h1 ?_ ?_
      · show k ≤ _ - cntL (effAt E ops) (fun j => bitOf ops j i) ops.size
        omega
      · rw [a3]; unfold posAt; omega
  obtain ⟨rfl, hq⟩ := hfin
  have hs : Steps E call ops (bitOf ops) N s.t v (fun k => snaps.getD k default) := by
    refine ⟨fun i o ho he => ?_, hq⟩
    have := (a6 i o (get i o ho)).2
    rw [he] at this
    exact this
  refine wpIn_region_any hE.mixed ?_
  have hz : ∀ j, (Array.replicate ops.size false).getD j false = false := by
    intro j
    rw [Array.getD_eq_getD_getElem?, Array.getElem?_replicate]
    split <;> rfl
  have hzf : (fun j => (Array.replicate ops.size false).getD j false) = fun _ => false := funext hz
  have hc0 : ∀ k, cntL (effAt E ops) (fun _ => false) k = 0 := by
    intro k
    induction k with
    | zero => rfl
    | succ k ih => simp [cntL, ih]
  have ht0 : ∀ k, tmL ops N s.t v (fun _ => false) k = s.t := by
    intro k
    induction k with
    | zero => rfl
    | succ k ih => simp only [tmL, cond_false]; exact ih
  have hun : unL (fun _ => false) ops.size = ops.size := by
    have : ∀ k, unL (fun _ => false) k = k := by
      intro k
      induction k with
      | zero => rfl
      | succ k ih => unfold unL at *; simp only [cntL]; rw [ih]; rfl
    exact this _
  refine draw_any hE hc hf hs a.defers ops.size (Array.replicate ops.size false) ι a w.drew (by simp) ?_ ?_ ?_ ?_ rfl ?_
  · intro j u _ hj
    rw [hz] at hj; cases hj
  · rw [hzf, hun]; exact Nat.le_refl _
  · rw [hzf, hc0]
    have : snaps.getD 0 default = s.h := by rw [a2]; rfl
    show HR w0 ι (snaps.getD 0 default) w.drew
    rw [this]
    exact H.drew
  · rw [hzf, ht0]; exact T
  · intro κ a' w' h1 h2 h3 h4
    refine hQ κ a' w' h1 ?_ ?_ h4
    · rw [a5]; exact h2
    · rw [a4]; exact h3

end
end Go.Zs
