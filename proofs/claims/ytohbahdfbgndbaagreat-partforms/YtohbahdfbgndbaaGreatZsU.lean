/- A sound evaluator for the model's programs, twenty-first part: code, calls. -/
import Derived.Test.YtohbahdfbgndbaaGreatZsTl
namespace Go.Zs
open Go Go.RowKit

def Out.exit' : Out → Exit
  | .normal => .normal
  | .exit id => .exit id
  | .ret => .ret

section
variable {E : Env} {N lf : Nat} {w0 : Base} {call : CallF} {ro : Option Nat}

/-- Marks among an activation's deferred calls: of blocks out of which no call comes. -/
def marks (g : List Nat) : List Deferred := g.map fun b => { target := .collected b, args := #[] }

theorem marks_append (a b : List Nat) : marks (a ++ b) = marks a ++ marks b := by simp [marks]

/-- What an evaluation of code promises. -/
def CodeOK (E : Env) (ro : Option Nat) (w0 : Base) (N : Nat) (c : Code) (f : St → Option (Out × St)) : Prop :=
  ∀ (s : St) (r : Out × St), f s = some r → ∀ (ι : Emb) (a : Act) (w : World) (Q : Exit → Act → World → Prop), HR w0 ι s.h w → TR ι N s.t a.tmps →
    (∀ g κ a' w', Emb.le ι κ → HR (w0.add g) κ r.2.h w' → TR κ N r.2.t a'.tmps → a'.defers = marks g ++ a.defers → (ro.isSome = true → g = []) → Q r.1.exit' a' w') → c.wpIn (Fen ro) 0 E.P Q a w

/-- The same, whatever the base. -/
def CodeAll (E : Env) (ro : Option Nat) (ok : Code → Bool) (N : Nat) (c : Code) (f : St → Option (Out × St)) : Prop := ∀ w0 : Base, w0.ok = ok → CodeOK E ro w0 N c f

theorem next_g {g g' : List Nat} (h : ro.isSome = true → g = []) (h' : ro.isSome = true → g' = []) : ro.isSome = true → g' ++ g = [] := fun hr => by rw [h hr, h' hr]; rfl

theorem next_d {g g' : List Nat} {d d' d'' : List Deferred} (h : d' = marks g ++ d) (h' : d'' = marks g' ++ d') : d'' = marks (g' ++ g) ++ d := by rw [h', h, marks_append, List.append_assoc]

theorem iter_sound {c : Code} {f : St → Option (Out × St)} (hf : CodeAll E ro w0.ok N c f) : ∀ (k : Nat) (s : St) (r : Out × St), iter f k s = some r → ∀ (g0 : List Nat) (ι : Emb) (a : Act) (w : World) (Q : Exit → Act → World → Prop), HR (w0.add g0) ι s.h w → TR ι N s.t a.tmps →
    (∀ g κ a' w', Emb.le ι κ → HR (w0.add (g ++ g0)) κ r.2.h w' → TR κ N r.2.t a'.tmps → a'.defers = marks g ++ a.defers → (ro.isSome = true → g = []) → Q r.1.exit' a' w') → Code.roundsIn (Fen ro) 0 E.P c Q k a w
  | 0, _, _, h, _, _, _, _, _, _, _, _ => by simp [iter] at h
  | k + 1, s, r, h, g0, ι, a, w, Q, H, T, hQ => by
    simp only [iter] at h
    obtain ⟨⟨o, s1⟩, h1, h2⟩ := bind_some h
    rw [roundsIn_succ]
    refine hf (w0.add g0) rfl s (o, s1) h1 ι a w _ H T fun g κ a' w' g1 g2 g3 g4 g5 => ?_
    rw [Base.add_add] at g2
    cases o with
    | normal => exact iter_sound hf k s1 r h2 (g ++ g0) κ a' w' Q g2 g3 fun g' μ a'' w'' e1 e2 e3 e4 e5 => hQ (g' ++ g) μ a'' w'' (g1.trans' e1) (by rw [List.append_assoc]; exact e2) e3 (next_d g4 e4) (next_g g5 e5)
    | exit id => cases h2; exact hQ g κ a' w' g1 g2 g3 g4 g5
    | ret => cases h2; exact hQ g κ a' w' g1 g2 g3 g4 g5

theorem T.sub_get {α : Type} {f : α → α → Bool} : ∀ (a b : T α), T.sub f a b = true → ∀ i x, a.get i = some x → ∃ y, b.get i = some y ∧ f x y = true
  | .leaf, _, _, i, x, h => by cases h
  | .node none l r, .leaf, hs, i, x, h => by
    simp only [T.sub, Bool.and_eq_true] at hs
    rw [T.get_node] at h
    split at h
    · cases h
    · split at h
      · obtain ⟨y, h1, _⟩ := T.sub_get l .leaf hs.1 _ _ h; cases h1
      · obtain ⟨y, h1, _⟩ := T.sub_get r .leaf hs.2 _ _ h; cases h1
  | .node (some _) _ _, .leaf, hs, i, x, h => by simp [T.sub] at hs
  | .node none l r, .node u l' r', hs, i, x, h => by
    simp only [T.sub, Bool.and_eq_true] at hs
    rw [T.get_node] at h ⊢
    split at h
    · cases h
    · rename_i h0
      rw [if_neg h0]
      split at h
      · rename_i h1; rw [if_pos h1]; exact T.sub_get l l' hs.1 _ _ h
      · rename_i h1; rw [if_neg h1]; exact T.sub_get r r' hs.2 _ _ h
  | .node (some a) l r, .node (some b) l' r', hs, i, x, h => by
    simp only [T.sub, Bool.and_eq_true] at hs
    rw [T.get_node] at h ⊢
    split at h
    · rename_i h0
      rw [if_pos h0]
      cases h
      exact ⟨b, rfl, hs.1.1⟩
    · rename_i h0
      rw [if_neg h0]
      split at h
      · rename_i h1; rw [if_pos h1]; exact T.sub_get l l' hs.1.2 _ _ h
      · rename_i h1; rw [if_neg h1]; exact T.sub_get r r' hs.2 _ _ h
  | .node (some _) _ _, .node none _ _, hs, i, x, h => by simp [T.sub] at hs

theorem HR.sub {ι : Emb} {h h' : Heap} {w : World} (H : HR w0 ι h w) (hn : h'.next = h.next) (g : ∀ j o, h'.get j = some o → h.get j = some o) : HR w0 ι h' w :=
  ⟨H.below, fun i p e => by rw [hn]; exact H.dom i p e, fun j o e => H.obj j o (g j o e), fun j o p e => H.own j o p (g j o e), fun j k o u p q e e' => H.sep j k o u p q (g _ _ e) (g _ _ e'), H.gd, fun b j o p hb e => H.gs b j o p hb (g _ _ e), H.gn, fun i hi => by rw [hn]; exact H.rv i hi⟩

theorem fitsR_spec {n : Nat} {ds : List Tmp} {t : Tm} {o : Out} {h : Heap} {q : Out × St} (hf : fitsR n ds t o h q = true) : FitsP n ds t o h q := by
  unfold fitsR at hf
  simp only [Bool.and_eq_true] at hf
  obtain ⟨⟨⟨h1, h2⟩, h3⟩, h4⟩ := hf
  refine ⟨?_, fun k hk hd => ?_, Nat.eq_of_beq_eq_true h3, fun j u hj => ?_⟩
  · have hq := q.1
    generalize q.1 = o' at h1 ⊢
    cases o <;> cases o' <;> simp only [Out.same, Bool.false_eq_true] at h1 <;> first | rfl | rw [Nat.eq_of_beq_eq_true h1]
  · have := List.all_eq_true.1 h2 k (List.mem_range.2 hk)
    simp only [Bool.or_eq_true] at this
    rcases this with h5 | h5
    · obtain ⟨d, hd1, hd2⟩ := List.any_eq_true.1 h5
      rw [Nat.eq_of_beq_eq_true hd2] at hd
      exact absurd hd1 hd
    · exact V.same_eq _ _ h5
  · obtain ⟨y, h5, h6⟩ := T.sub_get _ _ h4 j u hj
    rw [Ob.same_eq _ _ h6]
    exact h5

theorem fitsB_spec {n : Nat} {ds : List Tmp} {t : Tm} {o : Out} {h : Heap} {q : Out × St} (hf : fitsB n ds t o h q = true) : FitsP n ds t o h q := by
  unfold fitsB at hf
  rw [Bool.or_eq_true] at hf
  rcases hf with h1 | h1
  · exact fitsR_spec h1
  · exact @of_decide_eq_true _ (Classical.propDecidable _) h1

theorem fitsB_of {n : Nat} {ds : List Tmp} {t : Tm} {o : Out} {h : Heap} {q : Out × St} (hf : FitsP n ds t o h q) : fitsB n ds t o h q = true := by
  unfold fitsB
  rw [Bool.or_eq_true]
  exact .inr (@decide_eq_true _ (Classical.propDecidable _) hf)

theorem havocT_get (n : Nat) : ∀ (ds : List Tmp) (t : Tm) (k : Nat), (havocT n ds t).get k = if k < n ∧ k ∈ ds then .any else t.get k
  | [], t, k => by simp [havocT]
  | d :: ds, t, k => by
    show (havocT n ds (putV n t (some d) .any)).get k = _
    rw [havocT_get n ds]
    by_cases hk : k < n ∧ k ∈ ds
    · rw [if_pos hk, if_pos ⟨hk.1, List.mem_cons_of_mem _ hk.2⟩]
    · rw [if_neg hk]
      unfold putV
      simp only
      cases hb : Nat.blt d n
      · rw [cond_false]
        rw [if_neg]
        rintro ⟨h1, h2⟩
        rcases List.mem_cons.1 h2 with rfl | h2
        · rw [show Nat.blt k n = true from Nat.ble_eq_true_of_le h1] at hb; cases hb
        · exact hk ⟨h1, h2⟩
      · have hdn : d < n := Nat.le_of_ble_eq_true hb
        rw [cond_true, Tm.get_put]
        by_cases he : k = d
        · rw [if_pos he, if_pos ⟨he ▸ hdn, he ▸ List.mem_cons_self ..⟩]
        · rw [if_neg he, if_neg]
          rintro ⟨h1, h2⟩
          rcases List.mem_cons.1 h2 with h2 | h2
          · exact he h2
          · exact hk ⟨h1, h2⟩

theorem TR.havoc {ι κ : Emb} {n : Nat} {ds : List Tmp} {t t' : Tm} {tmps tmps' : Array Value} (hl : Emb.le ι κ) (h0 : TR ι n t tmps) (h1 : TR κ n t' tmps') (hs : ∀ k, k < n → k ∉ ds → t'.get k = t.get k) : TR κ n (havocT n ds t) tmps' := by
  refine ⟨h1.size, fun k => ?_⟩
  rw [havocT_get]
  by_cases hk : k < n
  · by_cases hd : k ∈ ds
    · rw [if_pos ⟨hk, hd⟩]; exact .any _
    · rw [if_neg fun h => hd h.2, ← hs k hk hd]; exact h1.get k
  · rw [if_neg fun h => hk h.1]
    have := (h0.get k).mono hl
    have e1 : tmps.getD k Go.undef = Go.undef := by rw [Array.getD_eq_getD_getElem?, Array.getElem?_eq_none (by rw [h0.size]; omega)]; rfl
    have e2 : tmps'.getD k Go.undef = Go.undef := by rw [Array.getD_eq_getD_getElem?, Array.getElem?_eq_none (by rw [h1.size]; omega)]; rfl
    rw [e1] at this
    rw [e2]
    exact this

theorem TR.any {ι : Emb} {n : Nat} {t : Tm} {tmps : Array Value} (h : TR ι n t tmps) (d : Tmp) : TR ι n (putV n t (some d) .any) tmps := by
  refine ⟨h.size, fun k => ?_⟩
  unfold putV
  simp only
  cases Nat.blt d n
  · exact h.get k
  · rw [cond_true, Tm.get_put]
    split
    · exact .any _
    · exact h.get k

theorem TR.anys {ι : Emb} {n : Nat} {tmps : Array Value} : ∀ (ds : List Tmp) {t : Tm}, TR ι n t tmps → TR ι n (ds.foldl (fun t d => putV n t (some d) .any) t) tmps
  | [], _, h => h
  | d :: ds, _, h => TR.anys ds (h.any d)

theorem mapM_mem {α β : Type} {f : α → Option β} : ∀ {l : List α} {rs : List β}, l.mapM f = some rs → ∀ o ∈ l, ∃ r ∈ rs, f o = some r
  | [], _, _, o, ho => by cases ho
  | a :: l, rs, h, o, ho => by
    rw [List.mapM_cons] at h
    obtain ⟨r, hr, h1⟩ := bind_some h
    obtain ⟨rs', hrs, h2⟩ := bind_some h1
    cases h2
    rcases List.mem_cons.1 ho with rfl | hm
    · exact ⟨r, List.mem_cons_self .., hr⟩
    · obtain ⟨q, hq, e⟩ := mapM_mem hrs o hm
      exact ⟨q, List.mem_cons_of_mem _ hq, e⟩

theorem mapRounds_sound (hE : EnvOK E) (hc : ∀ w0 : Base, w0.ok = okRound E → CallOK E w0 call) (hok : w0.ok = okRound E) {ops : Array Oper} {o : Oper} {os : List Oper} {x : Operand} {ds : List Tmp} {body : St → Option (Out × St)} {i : Nat} {rest : Code} (hl : ops.toList = o :: os) (ho : o.op = .next x false) (hg : o.guard = none)
    (hb : CodeAll E ro w0.ok N rest body) : ∀ (k : Nat) (s : St) (r : Out × St), dMapRounds E call N ops os x o.dst ds body k s = some r → ∀ (g0 : List Nat) (ι : Emb) (a : Act) (w : World) (Q : Exit → Act → World → Prop), HR (w0.add g0) ι s.h w → TR ι N s.t a.tmps →
    (∀ g κ a' w', Emb.le ι κ → HR (w0.add (g ++ g0)) κ r.2.h w' → TR κ N r.2.t a'.tmps → a'.defers = marks g ++ a.defers → (ro.isSome = true → g = []) → Q r.1.exit' a' w') → Code.roundsIn (Fen ro) 0 E.P (.seq (.region i ops false) rest) Q k a w
  | 0, _, _, h, _, _, _, _, _, _, _, _ => by simp [dMapRounds] at h
  | k + 1, s, r, h, g0, ι, a, w, Q, H, T, hQ => by
    simp only [dMapRounds] at h
    obtain ⟨outs, h1, h2⟩ := bind_some h
    obtain ⟨rs, h3, h4⟩ := bind_some h2
    obtain ⟨out, hm, v', w', hrun, H', hv⟩ := nexts_sound (E := E) H o.type (ev_sound T x) h1
    obtain ⟨q, hq, h5⟩ := mapM_mem h3 out hm
    obtain ⟨s1, h6, h7⟩ := bind_some h5
    obtain ⟨⟨e1, s2⟩, h8, h9⟩ := bind_some h7
    have hQ' : ∀ g κ a' w', Emb.le ι κ → HR (w0.add (g ++ g0)) κ q.2.h w' → TR κ N q.2.t a'.tmps → a'.defers = marks g ++ a.defers → (ro.isSome = true → g = []) → Q q.1.exit' a' w' := by
      intro g κ a' w' g1 g2 g3 g4 g5
      split at h4
      · cases h4
      · cases h4
        rw [List.mem_singleton.1 hq]
        rw [List.mem_singleton.1 hq] at g2 g3
        exact hQ g κ a' w' g1 g2 g3 g4 g5
      · rename_i r0 rs0 _
        have fin : ∀ hp : Heap, FitsP N ds s.t r0.1 hp q → r = (r0.1, ⟨havocT N ds s.t, hp⟩) → Q q.1.exit' a' w' := by
          rintro hp ⟨e1, e2, e3, e4⟩ rfl
          rw [← e1]
          exact hQ g κ a' w' g1 (g2.sub e3 e4) (TR.havoc g1 T g3 e2) g4 g5
        cases hlo : E.loose
        · rw [hlo, cond_false] at h4
          obtain ⟨hall, h10⟩ := bif_some h4
          cases h10
          exact fin _ (fitsB_spec (List.all_eq_true.1 hall q hq)) rfl
        · rw [hlo, cond_true] at h4
          cases hfull : (r0 :: rs0).all (fitsR N ds s.t r0.1 (killIt (ev s.t x) r0.2.h))
          · rw [hfull, cond_false] at h4
            obtain ⟨hall, h10⟩ := bif_some h4
            cases h10
            exact fin _ (fitsR_spec (List.all_eq_true.1 hall q hq)) rfl
          · rw [hfull, cond_true] at h4
            cases h4
            exact fin _ (fitsR_spec (List.all_eq_true.1 hfull q hq)) rfl
    rw [roundsIn_succ]
    refine wpIn_seq (wpIn_region ?_)
    have hlen : List.range ops.size = 0 :: List.range' 1 os.length := by
      have : ops.size = os.length + 1 := by rw [← Array.length_toList, hl]; rfl
      rw [this, List.range_eq_range']
      rfl
    rw [hlen, wpOpsIn_cons]
    have ho0 : ops[0]? = some o := by rw [← Array.getElem?_toList, hl]; rfl
    unfold wpOpIn
    rw [ho0]
    have hw : Region.wanted o (yielded ops a.tmps) = true := by unfold Region.wanted; rw [hg]
    simp only [hw, if_true]
    refine wp_sem (fun c h => by rw [ho] at h; cases h) (s := Instr.next (a.eval x) false o.type) (r := out) ⟨ι, v', w', Emb.le_refl ι, H', hv, hrun⟩ (by unfold execOp; rw [ho]) fun κ w1 v1 g1 g2 g3 => ?_
    have hdrop : ops.toList.drop 1 = os := by rw [hl]; rfl
    refine ops_sound hE (hc (w0.add g0) hok) os 1 hdrop g2 ((T.mono g1).put o.dst g3) h6 fun μ a2 w2 f1 f2 f3 f4 => ?_
    have f4' : a2.defers = a.defers := f4.trans (by cases o.dst <;> rfl)
    refine hb (w0.add g0) rfl s1 (e1, s2) h8 μ a2 w2 _ f2 f3 fun g ν a3 w3 d1 d2 d3 d4 d5 => ?_
    rw [Base.add_add] at d2
    rw [f4'] at d4
    cases e1 with
    | normal =>
      refine mapRounds_sound hE hc hok hl ho hg hb k s2 q h9 (g ++ g0) ν a3 w3 Q d2 d3 fun g' τ a4 w4 b1 b2 b3 b4 b5 => ?_
      exact hQ' (g' ++ g) τ a4 w4 (((g1.trans' f1).trans' d1).trans' b1) (by rw [List.append_assoc]; exact b2) b3 (next_d d4 b4) (next_g d5 b5)
    | exit id => cases h9; exact hQ' g ν a3 w3 ((g1.trans' f1).trans' d1) d2 d3 d4 d5
    | ret => cases h9; exact hQ' g ν a3 w3 ((g1.trans' f1).trans' d1) d2 d3 d4 d5

theorem headOf_some {ops : Array Oper} {x : Operand} {dst : Option Tmp} {os : List Oper} (h : headOf ops = some (x, dst, os)) : ∃ o, ops.toList = o :: os ∧ o.op = .next x false ∧ o.guard = none ∧ o.dst = dst := by
  unfold headOf at h
  split at h
  · rename_i o os' hl
    split at h
    · rename_i x' h1 h2
      cases h
      exact ⟨o, hl, h1, h2, rfl⟩
    · cases h
  · cases h

theorem loop_sound (hE : EnvOK E) (hc : ∀ w0 : Base, w0.ok = okRound E → CallOK E w0 call) (hok : w0.ok = okRound E) {b : Code} (hb : CodeAll E ro w0.ok N b (dCode E call N lf b)) (hr : ∀ i ops rest, b = .seq (.region i ops false) rest → CodeAll E ro w0.ok N rest (dCode E call N lf rest)) :
    CodeOK E ro w0 N (.loop b) (dCode E call N lf (.loop b)) := by
  intro s r hd ι a w Q H T hQ
  unfold dCode at hd
  have key : ∀ r, iter (dCode E call N lf b) lf s = some r → _ := fun r hd => iter_sound (w0 := w0) hb lf s r hd
  have hQ0 : ∀ g κ a' w', Emb.le ι κ → HR (w0.add (g ++ [])) κ r.2.h w' → TR κ N r.2.t a'.tmps → a'.defers = marks g ++ a.defers → (ro.isSome = true → g = []) → Q r.1.exit' a' w' := by
    intro g κ a' w' g1 g2
    rw [List.append_nil] at g2
    exact hQ g κ a' w' g1 g2
  split at hd
  · rename_i i ops rest
    cases hh : headOf ops with
    | none => rw [hh] at hd; exact wpIn_loop_rounds lf (key r hd [] ι a w Q H T hQ0)
    | some y =>
      obtain ⟨x, dst, os⟩ := y
      rw [hh] at hd
      obtain ⟨o, h1, h2, h3, rfl⟩ := headOf_some hh
      exact wpIn_loop_rounds lf (mapRounds_sound hE hc hok h1 h2 h3 (hr i ops rest rfl) lf s r hd [] ι a w Q H T hQ0)
  · exact wpIn_loop_rounds lf (key r hd [] ι a w Q H T hQ0)

theorem rangeFunc_sound (hE : EnvOK E) (hc : ∀ w0 : Base, w0.ok = okRound E → CallOK E w0 call) {gg : Operand} {ps : Array Tmp} {assign body : Code} (hok : okCode E (.rangeFunc gg ps assign body) = true) (hw : w0.ok = okRound E) :
    CodeOK E none w0 N (.rangeFunc gg ps assign body) (dCode E call N lf (.rangeFunc gg ps assign body)) := by
  intro s r hd ι a w Q H T hQ
  simp only [okCode, Bool.and_eq_true] at hok
  simp only [dCode] at hd
  have hgv := ev_sound T gg
  split at hd
  · rename_i f captured heq
    rw [heq] at hgv
    generalize hgf : a.eval gg = gfv at hgv
    cases hgv with
    | @fn _ _ _ first' captured' hf1 hf2 =>
    have hfst : first' = #[] := by
      cases first' with
      | mk l => cases hf1; rfl
    subst hfst
    split at hd
    · cases hd
    · obtain ⟨⟨vr, hr⟩, hcall, hd2⟩ := bind_some hd
      have H1 := H.guard
      have ra : w0.ok assign = true := by rw [hw]; unfold okRound; rw [hok.1.1.1, hok.1.2]; rfl
      have rb : w0.ok body = true := by rw [hw]; unfold okRound; rw [hok.1.1.2, hok.2]; rfl
      have hsz : (w.alloc (.deferred (some []))).heap.size = w.heap.size + 1 := World.size_alloc ..
      refine wpIn_rangeFunc fun fn _ => ?_
      have H2 := H1.new (o := .loop .ready .normal N s.t ps.toList assign body) (o' := .loop { state := .ready, pending := none, fn := fn, tmps := a.tmps, params := ps, assign, body, defers := w.heap.size }) (p := ⟨w.heap.size + 1, 0, 0⟩) hsz.symm
        ⟨_, by rw [← hsz]; exact heap_alloc_new _ _, rfl, rfl, T.size, T.get, by simp, rfl, rfl, ra, rb⟩
      obtain ⟨⟨fn', hfn', hfb⟩, hcalls⟩ := (hc (w0.add [w.heap.size]) hw).fn _ _ _ _ hcall
      have hle := H1.le_add ⟨w.heap.size + 1, 0, 0⟩
      have hnb : fn'.body.isNone = false := by cases hq : fn'.body with
        | none => rw [hq] at hfb; cases hfb
        | some c => rfl
      have hargs : VRs (ι.add s.h.next ⟨w.heap.size + 1, 0, 0⟩) (.yld s.h.next :: captured) (#[Value.func (.yield (w.heap.size + 1)) #[] #[]] ++ captured').toList := by
        rw [Array.toList_append]
        exact .cons (.yld (p := ⟨w.heap.size + 1, 0, 0⟩) (Emb.add_same ..)) (VRs.mono hle hf2)
      have hcs := hcalls _ _ _ H2 hargs
      generalize hW : (w.alloc (.deferred (some []))).alloc (.loop { state := .ready, pending := none, fn := fn, tmps := a.tmps, params := ps, assign, body, defers := w.heap.size }) = W at hcs H2
      have hent : (Instr.enterLoop fn a.tmps ps assign body none).run E.P w = .ok (w.heap.size + 1, [{ target := .collected w.heap.size, args := #[] }]) W := by rw [← hW]; exact run_enterLoop_outer _ _ _ _ _
      clear hW
      refine ⟨w.heap.size + 1, [{ target := .collected w.heap.size, args := #[] }], W, { target := .fn (.func f) captured', args := #[.func (.yield (w.heap.size + 1)) #[] #[]] }, W, f, #[.func (.yield (w.heap.size + 1)) #[] #[]] ++ captured', W, hent, ?_, fun _ _ => trivial, ?_, fun h => (by cases h), ?_⟩
      rotate_left 2
      · refine callsIn_Fen (Calls.mono hcs ?_)
        rintro e w3 ⟨κ, v', k1, k2, k3, rfl⟩
        have hli : κ s.h.next = some ⟨w.heap.size + 1, 0, 0⟩ := k1 _ _ (Emb.add_same ..)
        have fin : ∀ (st : LSt) (pend : Out) n1 t1 ps1 as1 bd1, st.st ≠ .busy → hr.get s.h.next = some (.loop st pend n1 t1 ps1 as1 bd1) → r = (pend, (⟨s.t, hr.kill s.h.next⟩ : St)) → rangePost (Fen none) 0 E.P (w.heap.size + 1) Q { a with defers := [{ target := .collected w.heap.size, args := #[] }] ++ a.defers } (.returned v') w3 := by
          intro st pend n1 t1 ps1 as1 bd1 hst hget hres
          subst hres
          obtain ⟨p, hp, rec, hrec, r1, r2, _⟩ := k2.obj _ _ hget
          rw [hli] at hp; cases hp
          have H4 := k2.drop (w' := w3.putObj (w.heap.size + 1) (.loop { rec with state := .exhausted })) hget hli rfl (turned_setMap w3 _ _)
          have hq := hQ [w.heap.size] κ { a with defers := [{ target := .collected w.heap.size, args := #[] }] ++ a.defers } _ (hle.trans' k1) H4 (T.mono (hle.trans' k1)) rfl (fun h => (by cases h))
          refine ⟨rec.pending, _, run_endLoop hrec (by rw [r1]; exact hst), ?_⟩
          rw [r2] at hq ⊢
          cases pend with
          | normal => exact hq
          | exit id => exact wpIn_exit hq
          | ret => exact wpIn_ret hq
        simp only at hd2
        split at hd2
        · cases hd2
        · rename_i st pend n1 t1 ps1 as1 bd1 hnb2 hget
          refine fin st pend n1 t1 ps1 as1 bd1 ?_ hget (Option.some.inj hd2).symm
          intro hb
          cases st with
          | busy => exact hnb2 rfl
          | ready => cases hb
          | done => cases hb
        · cases hd2
      · simp only [resolve, hgf]
        simp [go_sem]
      · simp only [invoke, callFunc, Sem.run_bind, run_program, Result.andThen_ok, hfn', hE.name _ _ hfn' hfb, Bool.false_eq_true, if_false, hnb, Sem.run_pure]
  · cases hd

theorem code_sound (hE : EnvOK E) (hc : ∀ w0 : Base, w0.ok = okRound E → CallOK E w0 call) : ∀ (c : Code), okCode E c = true → (ro.isSome = true → plainC c = true) → ∀ w0 : Base, w0.ok = okRound E → CodeOK E ro w0 N c (dCode E call N lf c)
  | .skip, _, _, w0, hw => by
    intro s r hd ι a w Q H T hQ
    simp only [dCode] at hd; cases hd
    exact wpIn_skip (hQ [] ι a w (Emb.le_refl ι) H T rfl fun _ => rfl)
  | .label l, _, _, w0, hw => by
    intro s r hd ι a w Q H T hQ
    simp only [dCode] at hd; cases hd
    exact wpIn_label (hQ [] ι a w (Emb.le_refl ι) H T rfl fun _ => rfl)
  | .region id ops false, _, _, w0, hw => by
    intro s r hd ι a w Q H T hQ
    simp only [dCode] at hd
    obtain ⟨s', hs, rfl⟩ := map_some hd
    exact region_sound hE (hc w0 hw) H T hs fun κ a' w' h1 h2 h3 h4 => hQ [] κ a' w' h1 h2 h3 h4 fun _ => rfl
  | .region id ops true, hok, _, w0, hw => by
    intro s r hd ι a w Q H T hQ
    simp only [dCode] at hd
    obtain ⟨s', hs, rfl⟩ := map_some hd
    exact any_sound hE hc hw (by simpa [okCode] using hok) H T hs fun κ a' w' h1 h2 h3 h4 => hQ [] κ a' w' h1 h2 h3 h4 fun _ => rfl
  | .seq x y, hok, hpl, w0, hw => by
    intro s r hd ι a w Q H T hQ
    simp only [okCode, Bool.and_eq_true] at hok
    have hpx : ro.isSome = true → plainC x = true := fun h => by have := hpl h; simp only [plainC, Bool.and_eq_true] at this; exact this.1
    have hpy : ro.isSome = true → plainC y = true := fun h => by have := hpl h; simp only [plainC, Bool.and_eq_true] at this; exact this.2
    simp only [dCode] at hd
    obtain ⟨⟨o, s1⟩, h1, h2⟩ := bind_some hd
    refine wpIn_seq (code_sound hE hc x hok.1 hpx w0 hw s (o, s1) h1 ι a w _ H T fun g κ a' w' g1 g2 g3 g4 g5 => ?_)
    cases o with
    | normal =>
      refine code_sound hE hc y hok.2 hpy (w0.add g) hw s1 r h2 κ a' w' Q g2 g3 fun g' μ a'' w'' e1 e2 e3 e4 e5 => ?_
      rw [Base.add_add] at e2
      exact hQ (g' ++ g) μ a'' w'' (g1.trans' e1) e2 e3 (next_d g4 e4) (next_g g5 e5)
    | exit id => cases h2; exact hQ g κ a' w' g1 g2 g3 g4 g5
    | ret => cases h2; exact hQ g κ a' w' g1 g2 g3 g4 g5
  | .cond c x y, hok, hpl, w0, hw => by
    intro s r hd ι a w Q H T hQ
    simp only [okCode, Bool.and_eq_true] at hok
    have hpx : ro.isSome = true → plainC x = true := fun h => by have := hpl h; simp only [plainC, Bool.and_eq_true] at this; exact this.1
    have hpy : ro.isSome = true → plainC y = true := fun h => by have := hpl h; simp only [plainC, Bool.and_eq_true] at this; exact this.2
    simp only [dCode] at hd
    have hv := ev_sound T c
    split at hd
    · rename_i heq
      rw [heq] at hv
      generalize hx : a.eval c = x at hv
      cases hv
      exact wpIn_cond_true hx (code_sound hE hc x hok.1 hpx w0 hw s r hd ι a w Q H T hQ)
    · rename_i heq
      rw [heq] at hv
      generalize hx : a.eval c = x at hv
      cases hv
      exact wpIn_cond_false hx (code_sound hE hc y hok.2 hpy w0 hw s r hd ι a w Q H T hQ)
    · cases hd
  | .block id b, hok, hpl, w0, hw => by
    intro s r hd ι a w Q H T hQ
    simp only [dCode] at hd
    obtain ⟨⟨o, s1⟩, h1, h2⟩ := map_some hd
    refine wpIn_block (code_sound hE hc b (by simpa [okCode] using hok) (fun h => by simpa [plainC] using hpl h) w0 hw s (o, s1) h1 ι a w _ H T fun g κ a' w' g1 g2 g3 g4 g5 => ?_)
    cases o with
    | normal => subst h2; exact hQ g κ a' w' g1 g2 g3 g4 g5
    | exit j =>
      simp only at h2
      by_cases hj : j = id
      · subst hj
        rw [Nat.beq_refl, cond_true] at h2
        subst h2
        show (if j = j then Q .normal a' w' else Q (.exit j) a' w')
        rw [if_pos rfl]
        exact hQ g κ a' w' g1 g2 g3 g4 g5
      · rw [_root_.Go.Zs.T.beq_false hj, cond_false] at h2
        subst h2
        show (if j = id then Q .normal a' w' else Q (.exit j) a' w')
        rw [if_neg hj]
        exact hQ g κ a' w' g1 g2 g3 g4 g5
    | ret => subst h2; exact hQ g κ a' w' g1 g2 g3 g4 g5
  | .loop b, hok, hpl, w0, hw => by
    have hokb : okCode E b = true := by simpa [okCode] using hok
    have hplb : ro.isSome = true → plainC b = true := fun h => by simpa [plainC] using hpl h
    refine loop_sound hE hc hw (fun w1 h1 => code_sound hE hc b hokb hplb w1 (h1.trans hw)) fun i ops rest hbr w1 h1 => ?_
    have hok2 : okCode E rest = true := by
      subst hbr
      simp only [okCode, Bool.and_eq_true] at hokb
      exact hokb.2
    have hpl2 : ro.isSome = true → plainC rest = true := fun h => by
      subst hbr
      have := hplb h
      simp only [plainC, Bool.and_eq_true] at this
      exact this.2
    exact code_sound hE hc rest hok2 hpl2 w1 (h1.trans hw)
  | .scope b, _, _, w0, hw => by intro s r hd; simp [dCode] at hd
  | .exit id, _, _, w0, hw => by
    intro s r hd ι a w Q H T hQ
    simp only [dCode] at hd; cases hd
    exact wpIn_exit (hQ [] ι a w (Emb.le_refl ι) H T rfl fun _ => rfl)
  | .ret, _, _, w0, hw => by
    intro s r hd ι a w Q H T hQ
    simp only [dCode] at hd; cases hd
    exact wpIn_ret (hQ [] ι a w (Emb.le_refl ι) H T rfl fun _ => rfl)
  | .rangeFunc gg ps assign body, hok, hpl, w0, hw => by
    have hro : ro = none := by
      cases ro with
      | none => rfl
      | some l => have := hpl rfl; cases this
    subst hro
    exact rangeFunc_sound hE hc hok hw
  | .goto _, _, _, w0, hw => by intro s r hd; simp [dCode] at hd
  | .refuse _, _, _, w0, hw => by intro s r hd; simp [dCode] at hd
  termination_by c => SizeOf.sizeOf c
  decreasing_by all_goals (first | (subst hbr; simp_wf; done) | (subst hbr; simp_wf; omega) | (simp_wf; done) | (simp_wf; omega))

theorem argTm_get : ∀ (vs : List V) (k : Nat) (t : Tm) (x : Nat), (argTm vs k t).get x = if k ≤ x ∧ x < k + vs.length then vs.getD (x - k) .undef else t.get x
  | [], k, t, x => by simp [argTm]; omega
  | v :: vs, k, t, x => by
    simp only [argTm, List.length_cons]
    rw [argTm_get vs (k + 1), Tm.get_put]
    by_cases h1 : x = k
    · subst h1
      rw [if_neg (by omega), if_pos rfl, if_pos (by omega)]
      simp
    · by_cases h2 : k + 1 ≤ x ∧ x < k + 1 + vs.length
      · rw [if_pos h2, if_pos (by omega), show x - k = (x - (k + 1)) + 1 from by omega]
        rfl
      · rw [if_neg h2, if_neg h1, if_neg (by omega)]

theorem asAddr_some (a : Addr) : asAddr (.pointer (some a)) = pure a := rfl

theorem results_sound {ι : Emb} {s : St} {a : Act} {w : World} {fn : Func} {v : V} (H : HR w0 ι s.h w) (T : TR ι N s.t a.tmps) (hd : dResults E fn s = some v) : ∃ v', (results fn a.tmps).run E.P w = .ok v' w ∧ VR ι v v' := by
  unfold dResults at hd
  obtain ⟨vs, hvs, hd⟩ := map_some hd
  have key : ∀ (l : List ResultVar) (vs : List V), l.mapM (dResult E s.t s.h) = some vs → ∃ vs' : List Value, (l.mapM (fun (x : ResultVar) => (match x with
      | .tmp t => pure (a.tmps.getD t undef)
      | .cell c t => do loadVar t (← asAddr (a.tmps.getD c undef)) : Sem Value))).run E.P w = .ok vs' w ∧ VRs ι vs vs' := by
    intro l
    induction l with
    | nil => intro vs e; simp at e; subst e; exact ⟨[], by simp, .nil⟩
    | cons x l ih =>
      intro vs e
      rw [List.mapM_cons] at e
      obtain ⟨u, hu, e⟩ := bind_some e
      obtain ⟨us, hus, e⟩ := bind_some e
      cases e
      obtain ⟨us', hr, hv⟩ := ih us hus
      rw [List.mapM_cons]
      cases x with
      | tmp k =>
        simp only [dResult] at hu
        cases hu
        exact ⟨a.tmps.getD k undef :: us', by simp only [Sem.run_bind, Sem.run_pure, Result.andThen_ok, hr], .cons (T.get k) hv⟩
      | cell c ty =>
        simp only [dResult] at hu
        have hc := T.get c
        split at hu
        · rename_i i o heq
          rw [heq] at hc
          generalize hx : a.tmps.getD c undef = xv at hc
          cases hc with
          | ptr hp =>
          obtain ⟨u', hr', hv'⟩ := load_sound H hp hu
          exact ⟨u' :: us', by simp only [Sem.run_bind, hx, asAddr_some, Sem.run_pure, Result.andThen_ok, hr', hr], .cons hv' hv⟩
        · cases hu
  obtain ⟨vs', hr, hv⟩ := key fn.results.toList vs hvs
  have hrun : (results fn a.tmps).run E.P w = .ok (if h : vs'.toArray.size = 1 then vs'.toArray[0] else .tuple vs'.toArray) w := by
    unfold results
    have : (fn.results.mapM (fun (x : ResultVar) => (match x with
      | .tmp t => pure (a.tmps.getD t undef)
      | .cell c t => do loadVar t (← asAddr (a.tmps.getD c undef)) : Sem Value))).run E.P w = .ok vs'.toArray w := by
      rw [← Array.toArray_toList (xs := fn.results), List.mapM_toArray]
      simp only [Sem.run_map]
      rw [show fn.results.toList.toArray.toList = fn.results.toList from by simp] at *
      rw [hr]
      rfl
    simp only [Sem.run_bind]
    refine Eq.trans (congrArg (fun x => Result.andThen x _) this) ?_
    rfl
  refine ⟨_, hrun, ?_⟩
  cases hv with
  | nil => simp at hd; subst hd; exact .tup .nil
  | cons h t =>
    cases t with
    | nil => simp at hd; subst hd; simpa using h
    | cons h2 t2 =>
      simp at hd
      subst hd
      rw [dif_neg (by simp)]
      exact .tup (.cons h (.cons h2 t2))

/-- What is asked of the summaries. -/
def SumOK (E : Env) : Prop := ∀ f g, E.sum f = some g → ∀ args h r, g args h = some r → (∃ fn, E.P.funcs[f]? = some fn ∧ fn.body.isSome = true) ∧ ∀ (w0 : Base) ι w (args' : Array Value), w0.ok = okRound E → HR w0 ι h w → VRs ι args args'.toList → Calls E.P f args' w (CallR w0 ι r)

theorem putArgs_TR {ι : Emb} {n : Nat} : ∀ (ps : List Nat) (vs : List V) (vs' : List Value) (t : Tm) (tmps : Array Value), TR ι n t tmps → VRs ι vs vs' → TR ι n (putArgs n ps vs t) ((ps.zip vs').foldl (fun tmps (d, v) => tmps.setIfInBounds d v) tmps)
  | [], _, _, _, _, T, _ => by simpa [putArgs] using T
  | _ :: _, [], _, _, _, T, h => by cases h; simpa [putArgs] using T
  | d :: ps, v :: vs, _, t, tmps, T, h => by
    cases h with
    | cons h1 h2 =>
    rename_i v' vs'
    simp only [putArgs, List.zip_cons_cons, List.foldl_cons]
    have := TR.put (a := { tmps := tmps, defers := [] }) T (some d) h1
    exact putArgs_TR ps vs vs' _ _ this h2

theorem leaves {κ : Emb} {hh : Heap} {fn : Func} {tmps : Array Value} {R : Ending → World → Prop} (H0 : ∀ w', HR w0 κ hh w' → ∃ v', (results fn tmps).run E.P w' = .ok v' w' ∧ R (.returned v') w') :
    ∀ (g : List Nat) (w : World), HR (w0.add g) κ hh w → LeavesInM Fence.wide 0 E.P fn tmps R (marks g) .returning w
  | [], w, H => H0 w H
  | b :: g, w, H => ⟨by simp, .inl ⟨b, _, rfl, run_takeDeferred (H.gd (b, noCalls) (List.mem_cons_self ..)).2, leaves H0 g _ (H.unguard (turned_setMap w b _))⟩⟩

theorem okRound_parts {c : Code} (h : okRound E c = true) : okCode E c = true ∧ plainC c = true := by
  unfold okRound at h
  simpa using h

theorem run_sound (hE : EnvOK E) (hB : BodyOK E) (hS : SumOK E) : ∀ k, ∀ w0 : Base, w0.ok = okRound E → CallOK E w0 (run E lf k)
  | 0, _, _ => ⟨fun f args h r hd => by simp [run] at hd, fun f args h r hd => by simp [run] at hd⟩
  | k + 1, w0, hw => by
    have ih := run_sound hE hB hS k
    refine ⟨fun f args h r hd => ?_, fun i args h r hd ι w args' p H hargs hp => ?_⟩
    · simp only [run] at hd
      split at hd
      · rename_i g hg
        obtain ⟨h1, h2⟩ := hS f g hg args h r hd
        exact ⟨h1, fun ι w args' H hv => h2 w0 ι w args' hw H hv⟩
      · obtain ⟨fn, hfn, hd1⟩ := bind_some hd
        obtain ⟨c, hb, hd2⟩ := bind_some hd1
        obtain ⟨hck, hd3⟩ := bif_some hd2
        simp only [Bool.and_eq_true] at hck
        obtain ⟨⟨o, s'⟩, hcode, hd4⟩ := bind_some hd3
        refine ⟨⟨fn, hfn, by rw [hb]; rfl⟩, fun ι w args' H hargs => ?_⟩
        have hlen := hargs.length
        have hle := ble hck.2
        simp only [Array.length_toList] at hlen
        refine (callsIn_wide (n := 0)).1 (callsIn_of_wp_marks hfn hb trivial ?_)
        have T0 : TR ι fn.ntmps (argTm args 0 .leaf) (args' ++ Array.replicate (fn.ntmps - args'.size) Go.undef) := by
          refine ⟨by simp; omega, fun x => ?_⟩
          rw [argTm_get]
          simp only [Nat.zero_le, true_and, Nat.zero_add, Nat.sub_zero]
          by_cases hx : x < args.length
          · rw [if_pos hx]
            obtain ⟨v', e1, e2⟩ := hargs.get (List.getElem?_eq_getElem hx)
            have e3 : args.getD x .undef = args[x] := by simp [List.getD, List.getElem?_eq_getElem hx]
            rw [e3]
            have e4 : (args' ++ Array.replicate (fn.ntmps - args'.size) Go.undef).getD x Go.undef = v' := by
              rw [Array.getD_eq_getD_getElem?, Array.getElem?_append_left (by omega)]
              rw [Array.getElem?_toList] at e1
              rw [e1]; rfl
            rw [e4]
            exact e2
          · rw [if_neg hx]
            have e4 : (args' ++ Array.replicate (fn.ntmps - args'.size) Go.undef).getD x Go.undef = Go.undef := by
              rw [Array.getD_eq_getD_getElem?, Array.getElem?_append_right (by omega), Array.getElem?_replicate]
              split <;> rfl
            rw [e4]
            exact VR.undef
        have main := code_sound (ro := none) (N := fn.ntmps) (lf := lf) hE ih c (hB.fine f fn c hfn hb hck.1) (fun h => by cases h) w0 hw _ (o, s') hcode ι { tmps := args' ++ Array.replicate (fn.ntmps - args'.size) Go.undef, defers := [] } w (bodyPostM Fence.wide 0 E.P fn (CallR w0 ι r)) H T0
        refine main fun g κ a' w' g1 g2 g3 g4 _ => ?_
        have fin : ∀ r0, (dResults E fn s').map (fun v => (v, s'.h)) = some r0 → r0 = r → LeavesInM Fence.wide 0 E.P fn a'.tmps (CallR w0 ι r) a'.defers .returning w' := by
          intro r0 hr0 he
          obtain ⟨v, hv, rfl⟩ := map_some hr0
          subst he
          rw [g4, List.append_nil]
          refine leaves (κ := κ) (hh := s'.h) (fun w2 H2 => ?_) g w' g2
          obtain ⟨v', hr, hvr⟩ := results_sound H2 g3 hv
          exact ⟨v', hr, κ, v', g1, H2, hvr, rfl⟩
        cases o with
        | exit id => cases hd4
        | normal => exact fin _ hd4 rfl
        | ret => exact fin _ hd4 rfl
    · simp only [run] at hd
      split at hd
      · rename_i pend n t ps assign body hget
        obtain ⟨hln, hd1⟩ := bif_some hd
        obtain ⟨⟨o1, s1⟩, h1, hd2⟩ := bind_some hd1
        obtain ⟨q, hq, rec, hrec, r1, r2, r3, r4, r5, r6, r7, r8, r9⟩ := H.obj _ _ hget
        rw [hp] at hq; cases hq
        have hla := hargs.length
        have hsz : args'.size = rec.params.size := by
          have := Nat.eq_of_beq_eq_true hln
          rw [r5]
          simp at hla ⊢
          omega
        refine ⟨rec, hrec, hsz, roundIn_of_wpIn trivial ?_⟩
        rw [hw] at r8 r9
        obtain ⟨oa, pa⟩ := okRound_parts r8
        obtain ⟨ob, pb⟩ := okRound_parts r9
        rw [r6, r7]
        have T0 : TR ι n (putArgs n ps args t) ((rec.params.zip args').foldl (fun tmps (t, a) => tmps.setIfInBounds t a) rec.tmps) := by
          have := putArgs_TR ps args args'.toList t rec.tmps ⟨r3, r4⟩ hargs
          rw [r5, show ps.toArray.zip args' = (ps.zip args'.toList).toArray from by apply Array.toList_inj.1; simp]
          simpa using this
        have main := code_sound (ro := some p.blk) (N := n) (lf := lf) hE ih assign oa (fun _ => pa) w0 hw _ (o1, s1) h1 ι { tmps := (rec.params.zip args').foldl (fun tmps (t, a) => tmps.setIfInBounds t a) rec.tmps, defers := [] } w
          (Exit.then (fun a₁ w₁ => ∃ w₂, (Instr.beginRound p.blk).run E.P w₁ = .ok () w₂ ∧ body.wpIn (Fence.wide.inRound p.blk) 0 E.P (roundPost E.P p.blk (CallR w0 ι r)) a₁ w₂) (fun _ _ _ => False)) H T0
        refine main fun g κ a1 w1 g1 g2 g3 g4 g5 => ?_
        have hg0 := g5 rfl
        subst hg0
        have hpk := g1 _ _ hp
        cases o1 with
        | exit id => cases hd2
        | ret => cases hd2
        | normal =>
        simp only at hd2
        split at hd2
        · rename_i p2 n2 t2 ps2 as2 bd2 hget2
          obtain ⟨⟨o2, s2⟩, h2, hd3⟩ := bind_some hd2
          obtain ⟨q2, hq2, rec2, hrec2, u1, u2, u3⟩ := (show HR w0 κ s1.h w1 from g2).obj _ _ hget2
          rw [hpk] at hq2; cases hq2
          refine ⟨_, run_beginRound hrec2 u1, ?_⟩
          have H2 : HR w0 κ (s1.h.set i (.loop .busy p2 n2 t2 ps2 as2 bd2)) (w1.putObj p.blk (.loop { rec2 with state := .busy })) :=
            HR.upd (show HR w0 κ s1.h w1 from g2) hget2 hpk rfl (turned_setMap w1 p.blk _) ⟨_, set_get hrec2, rfl, u2, u3⟩
          have main2 := code_sound (ro := some p.blk) (N := n) (lf := lf) hE ih body ob (fun _ => pb) w0 hw _ (o2, s2) h2 κ a1 _ (roundPost E.P p.blk (CallR w0 ι r)) H2 g3
          refine main2 fun g' μ a2 w2 d1 d2 d3 d4 d5 => ?_
          have hg1 := d5 rfl
          subst hg1
          have hpm := d1 _ _ hpk
          simp only at hd3
          split at hd3
          · rename_i st3 p3 n3 t3 ps3 as3 bd3 hget3
            cases hd3
            obtain ⟨q3, hq3, rec3, hrec3, v1, v2, v3⟩ := (show HR w0 μ s2.h w2 from d2).obj _ _ hget3
            rw [hpm] at hq3; cases hq3
            have H3 : ∀ st, HR w0 μ (s2.h.set i (.loop st o2 n3 t3 ps3 as3 bd3)) (w2.putObj p.blk (.loop { rec3 with state := st.st, pending := o2.code })) := fun st =>
              HR.upd (show HR w0 μ s2.h w2 from d2) hget3 hpm rfl (turned_setMap w2 p.blk _) ⟨_, set_get hrec3, rfl, rfl, v3⟩
            cases o2 with
            | normal => exact ⟨_, _, run_endRound none hrec3, μ, _, g1.trans' d1, H3 .ready, .bool true, rfl⟩
            | ret => exact ⟨_, _, run_endRound (some .ret) hrec3, μ, _, g1.trans' d1, H3 .done, .bool false, rfl⟩
            | exit id => exact ⟨_, _, run_endRound (some (.exit id)) hrec3, μ, _, g1.trans' d1, H3 .done, .bool false, rfl⟩
          · cases hd3
        · cases hd2
      · cases hd

end
end Go.Zs
