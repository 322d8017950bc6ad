/- A sound evaluator for the model's programs, sixteenth part: an operation, a region that draws nothing. -/
import Derived.Test.YtohbahdfbgndbaaGreatZsO
namespace Go.Zs
open Go Go.RowKit

section
variable {w0 : Base} {ι : Emb} {h : Heap} {w : World} {E : Env} {n : Nat} {t : Tm} {a : Act} {ro : Option Nat}
variable {o : Oper} {K : Act → World → Prop} {Q : Exit → Act → World → Prop} {r : V × Heap}

theorem keep_some {x : Option V} (e : keep h x = some r) : ∃ v, x = some v ∧ r = (v, h) := by
  obtain ⟨v, hv, rfl⟩ := map_some e
  exact ⟨v, hv, rfl⟩

theorem skip_some {x : Option Heap} (e : asSkip x = some r) : ∃ h', x = some h' ∧ r = (V.undef, h') := by
  obtain ⟨v, hv, rfl⟩ := map_some e
  exact ⟨v, hv, rfl⟩

theorem eqGuard_ok (hE : EnvOK E) {op : BinOp} {xt : TypeId} {x y : Operand} {vx vy : V} {x' y' : Value} (hx : VR ι vx x') (hy : VR ι vy y') (hc : (isAggV vx && !E.eqs.contains xt) = false) {v : V} (hd : dBin E op xt vx vy h = some v) :
    (eqGuard op xt x y x' y').run E.P w = .ok () w := by
  unfold eqGuard
  by_cases hop : (!(match op with | .eql | .neq => true | _ => false)) = true
  · cases op <;> first | rfl | cases hop
  · have hop2 : op = .eql ∨ op = .neq := by cases op <;> first | exact .inl rfl | exact .inr rfl | exact absurd rfl hop
    have hno : ∀ d, vx = .any → dEqual E d xt vx vy h = none := by
      rintro d rfl
      cases d with
      | zero => rfl
      | succ d => unfold dEqual; split <;> simp_all
    have hno2 : ∀ d, vy = .any → dEqual E d xt vx vy h = none := by
      rintro d rfl
      cases d with
      | zero => rfl
      | succ d => unfold dEqual; split <;> simp_all
    have hne : ∃ r, dEqual E 100 xt vx vy h = some r ∨ (∃ k a k' b, vx = .int k a ∧ vy = .int k' b) ∨ (∃ a b, vx = .str a ∧ vy = .str b) := by
      rcases hop2 with rfl | rfl
      all_goals
        unfold dBin at hd
        split at hd
        · exact ⟨true, .inr (.inl ⟨_, _, _, _, rfl, rfl⟩)⟩
        · exact ⟨true, .inr (.inl ⟨_, _, _, _, rfl, rfl⟩)⟩
        · exact ⟨true, .inr (.inl ⟨_, _, _, _, rfl, rfl⟩)⟩
        · exact ⟨true, .inr (.inr ⟨_, _, rfl, rfl⟩)⟩
        · obtain ⟨r, hr, _⟩ := map_some hd; exact ⟨r, .inl hr⟩
        · obtain ⟨r, hr, _⟩ := map_some hd; exact ⟨r, .inl hr⟩
        · cases hd
    have hvx : vx ≠ .any := by
      rintro rfl
      obtain ⟨r, h1 | ⟨_, _, _, _, h1, _⟩ | ⟨_, _, h1, _⟩⟩ := hne
      · rw [hno 100 rfl] at h1; cases h1
      · cases h1
      · cases h1
    have hvy : vy ≠ .any := by
      rintro rfl
      obtain ⟨r, h1 | ⟨_, _, _, _, _, h1⟩ | ⟨_, _, _, h1⟩⟩ := hne
      · rw [hno2 100 rfl] at h1; cases h1
      · cases h1
      · cases h1
    have hagg : ∀ cs, x' = .agg cs → E.P.eqGuardType E.P.depth xt = false := by
      rintro cs rfl
      cases hx with
      | any => exact absurd rfl hvx
      | agg =>
        simp only [isAggV, Bool.true_and, Bool.not_eq_false'] at hc
        exact (hE.eqs xt (by simpa using hc)).2
    rcases hop2 with rfl | rfl <;>
    · cases x' <;> cases y' <;> first
        | rfl
        | (cases hx <;> first | exact absurd rfl hvx | (cases hy; exact absurd rfl hvy); done)
        | (have := hagg _ rfl; simp [this]; done)

theorem op_sound (hE : EnvOK E) {call : CallF} (hc : CallOK E w0 call) (H : HR w0 ι h w) (T : TR ι n t a.tmps) (hd : dOp E call o.op t h = some r)
    (hK : ∀ κ w' v', Emb.le ι κ → HR w0 κ r.2 w' → VR κ r.1 v' → K (a.put o.dst v') w') : o.wpIn (Fen ro) 0 E.P a w K Q := by
  have hnd : ∀ c, o.op ≠ .defer c := fun c h => by rw [h] at hd; cases hd
  have go : ∀ {s : Sem Value}, (execOp a.eval o = do pure (Next.value (← s))) → SemOK E.P w0 ι s w r → o.wpIn (Fen ro) 0 E.P a w K Q := fun he hs => wp_sem hnd hs (by rw [he]) hK
  unfold dOp at hd
  split at hd
  · rename_i x ho; cases hd
    exact wp_sem hnd (s := pure (a.eval x)) (.same H (ev_sound T x) rfl) (by unfold execOp; rw [ho]; rfl) hK
  · rename_i x ho; cases hd
    exact wp_sem hnd (s := pure (a.eval x)) (.same H (ev_sound T x) rfl) (by unfold execOp; rw [ho]; rfl) hK
  · rename_i c x y ho
    have hev := ev_sound T c
    split at hd
    · rename_i heq; cases hd
      rw [heq] at hev
      generalize hvc : a.eval c = vc at hev
      cases hev
      exact wp_sem hnd (s := pure (a.eval x)) (.same H (ev_sound T x) rfl) (by unfold execOp; rw [ho]; simp [hvc, asBool]) hK
    · rename_i heq; cases hd
      rw [heq] at hev
      generalize hvc : a.eval c = vc at hev
      cases hev
      exact wp_sem hnd (s := pure (a.eval y)) (.same H (ev_sound T y) rfl) (by unfold execOp; rw [ho]; simp [hvc, asBool]) hK
    · cases hd
  · rename_i e ho
    obtain ⟨z, hz, hd1⟩ := bind_some hd
    obtain ⟨hp, hd2⟩ := bif_some hd1
    cases hd2
    exact go (by unfold execOp; rw [ho]) (alloc_sound H hz hp)
  · rename_i e x ho
    obtain ⟨hp, hd2⟩ := bif_some hd
    cases hd2
    exact go (by unfold execOp; rw [ho]) (box_sound H (ev_sound T x) hp)
  · rename_i ty ps ho
    obtain ⟨v, hv, rfl⟩ := keep_some hd
    exact go (by unfold execOp; rw [ho]) ((build_sound (parts_sound T ps) hv).ok H)
  · rename_i ty len ps ho
    exact go (by unfold execOp; rw [ho]) (buildSlice_sound H (parts_sound T ps) hd)
  · rename_i ty x ho
    have hev := ev_sound T x
    split at hd
    · rename_i i off heq
      rw [heq] at hev
      generalize hvc : a.eval x = vc at hev
      cases hev with
      | ptr hp =>
      obtain ⟨v, hv, rfl⟩ := keep_some hd
      obtain ⟨v', hr, hvv⟩ := load_sound H hp hv
      exact go (s := Instr.loadAt ty (a.eval x)) (by unfold execOp; rw [ho]) (.same H hvv (by rw [hvc]; simp only [Instr.loadAt, Instr.sureAddr, Sem.run_bind, Sem.run_pure, Result.andThen_ok]; exact hr))
    · cases hd
  · rename_i ty x y ho
    have hev := ev_sound T x
    split at hd
    · rename_i i off heq
      rw [heq] at hev
      generalize hvc : a.eval x = vc at hev
      cases hev with
      | ptr hp =>
      obtain ⟨h', hv, rfl⟩ := skip_some hd
      obtain ⟨w', hr, H'⟩ := store_sound H hp hv (ev_sound T y)
      refine wp_unit hnd (s := Instr.storeAt ty (a.eval x) (a.eval y)) (by rw [hvc]; simp only [Instr.storeAt, Instr.sureAddr, Sem.run_bind, Sem.run_pure, Result.andThen_ok]; exact hr) H' (by unfold execOp; rw [ho]) hK
    · cases hd
  · rename_i x ho
    have hev := ev_sound T x
    split at hd
    · rename_i p heq; cases hd
      rw [heq] at hev
      have hev2 := hev
      generalize hvc : a.eval x = vc at hev hev2
      cases hev with
      | ptr hp =>
      exact wp_sem hnd (s := pure (a.eval x)) (.same H (by rw [hvc]; exact hev2) rfl) (by unfold execOp; rw [ho]; simp [hvc]) hK
    · rename_i f u v heq; cases hd
      rw [heq] at hev
      have hev2 := hev
      generalize hvc : a.eval x = vc at hev hev2
      cases hev with
      | fn =>
      exact wp_sem hnd (s := pure (a.eval x)) (.same H (by rw [hvc]; exact hev2) rfl) (by unfold execOp; rw [ho]; simp [hvc]) hK
    · cases hd
  · rename_i op xt x y yt ho
    obtain ⟨hc1, hd1⟩ := bif_none hd
    obtain ⟨v, hv, rfl⟩ := keep_some hd1
    obtain ⟨v', hr, hvv⟩ := bin_sound hE H (ev_sound T x) (ev_sound T y) hv
    have hg := eqGuard_ok (w := w) (x := x) (y := y) hE (ev_sound T x) (ev_sound T y) hc1 hv
    exact go (s := do eqGuard op xt x y (a.eval x) (a.eval y); binOp op xt (a.eval x) (a.eval y)) (by unfold execOp; rw [ho]) (.same H hvv (by simp only [Sem.run_bind, hg, Result.andThen_ok]; exact hr))
  · rename_i op xt x ho
    obtain ⟨v, hv, rfl⟩ := keep_some hd
    exact go (by unfold execOp; rw [ho]) ((un_sound (ev_sound T x) hv).ok H)
  · rename_i s d x ho
    exact go (by unfold execOp; rw [ho]) (convert_sound H (ev_sound T x) hd)
  · rename_i f u v ho
    cases hd
    exact go (s := Instr.makeFunc (.func f) (u.map a.eval) (v.map a.eval)) (by unfold execOp; rw [ho]) (.same H (.fn f (evs_sound T u) (evs_sound T v)) rfl)
  · rename_i ty ho
    cases hd
    refine go (s := Instr.makeMap ty none) (by unfold execOp; rw [ho]; rfl) ⟨_, _, _, H.le_add ⟨w.heap.size, 0, 0⟩, H.new (o := .map [] [] 0) (o' := .map #[] 0) (p := ⟨w.heap.size, 0, 0⟩) rfl ⟨#[], 0, heap_alloc_new _ _, .nil, rfl, rfl⟩, .map (Emb.add_same ..), rfl⟩
  · rename_i ty l c ho
    exact go (by unfold execOp; rw [ho]) (makeSlice_sound H (ev_sound T l) (ev_sound T c) hd)
  · rename_i ty x lo hi mx ho
    obtain ⟨v, hv, rfl⟩ := keep_some hd
    exact go (by unfold execOp; rw [ho]) ((slice_sound H (ev_sound T x) (opt_sound T lo) (opt_sound T hi) (opt_sound T mx) hv).ok H)
  · rename_i s x f ho
    obtain ⟨v, hv, rfl⟩ := keep_some hd
    exact go (by unfold execOp; rw [ho]) ((fieldAddr_sound (ev_sound T x) hv).ok H)
  · rename_i s x f ho
    obtain ⟨v, hv, rfl⟩ := keep_some hd
    exact go (by unfold execOp; rw [ho]) ((field_sound (ev_sound T x) hv).ok H)
  · rename_i s x f ho
    obtain ⟨v, hv, rfl⟩ := keep_some hd
    exact go (by unfold execOp; rw [ho]) ((indexAddr_sound (ev_sound T x) (ev_sound T f) hv).ok H)
  · rename_i s x f ho
    obtain ⟨v, hv, rfl⟩ := keep_some hd
    exact go (by unfold execOp; rw [ho]) ((index_sound (ev_sound T x) (ev_sound T f) hv).ok H)
  · rename_i s x f ok ho
    obtain ⟨v, hv, rfl⟩ := keep_some hd
    exact go (by unfold execOp; rw [ho]) ((lookup_sound hE H (ev_sound T x) (ev_sound T f) hv).ok H)
  · rename_i ty m k x ho
    obtain ⟨h', hv, rfl⟩ := skip_some hd
    obtain ⟨w', hr, H'⟩ := mapUpdate_sound hE H (ev_sound T m) (ev_sound T k) (ev_sound T x) hv
    exact wp_unit hnd hr H' (by unfold execOp; rw [ho]) hK
  · rename_i ty m k x ho
    obtain ⟨h', hv, rfl⟩ := skip_some hd
    obtain ⟨w', hr, H'⟩ := mapUpdate_sound hE H (ev_sound T m) (ev_sound T k) (ev_sound T x) hv
    exact wp_unit hnd hr H' (by unfold execOp; rw [ho]) hK
  · rename_i x i ho
    obtain ⟨v, hv, rfl⟩ := keep_some hd
    exact go (by unfold execOp; rw [ho]) ((extract_sound (ev_sound T x) hv).ok H)
  · rename_i ty x ho
    exact go (by unfold execOp; rw [ho]) (range_sound H (ev_sound T x) hd)
  · rename_i x ho
    obtain ⟨v, hv, rfl⟩ := keep_some hd
    exact go (by unfold execOp; rw [ho]) ((entry_sound H (ev_sound T x) hv).ok H)
  · rename_i c ho
    exact call_sound hE hc H T ho hd hK
  · cases hd

end
end Go.Zs
