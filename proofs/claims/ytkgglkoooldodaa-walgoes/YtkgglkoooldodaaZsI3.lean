/- A sound evaluator for the model's programs, fifteenth part: an operation as a whole. -/
import Derived.Test.YtkgglkoooldodaaZsI2
set_option linter.unusedVariables false
set_option linter.unusedSimpArgs false
set_option linter.deprecated false
namespace Go.Zs
open Go Go.RowKit

/-- The slots stand for the slots. -/
structure TR (ι : Emb) (n : Nat) (t : Tm) (tmps : Array Value) : Prop where
  size : tmps.size = n
  get : ∀ k, VR ι (t.get k) (tmps.getD k undef)

theorem VR.undef {ι : Emb} : VR ι .undef Go.undef := .tup .nil

theorem TR.mono {ι κ : Emb} (hl : Emb.le ι κ) {n : Nat} {t : Tm} {tmps : Array Value} (h : TR ι n t tmps) : TR κ n t tmps := ⟨h.size, fun k => (h.get k).mono hl⟩

theorem Tm.get_put (t : Tm) (d : Nat) (v : V) (k : Nat) : Tm.get (T.put t d (some v)) k = if k = d then v else t.get k := by
  unfold Tm.get
  rw [T.get_put]
  split <;> rfl

theorem TR.put {ι : Emb} {n : Nat} {t : Tm} {a : Act} (h : TR ι n t a.tmps) (dst : Option Tmp) {v : V} {v' : Value} (hv : VR ι v v') : TR ι n (putV n t dst v) (a.put dst v').tmps := by
  cases dst with
  | none => exact h
  | some d =>
    refine ⟨by simp [Act.put, h.size], fun k => ?_⟩
    unfold putV
    simp only
    by_cases hd : d < n
    · have e : Nat.blt d n = true := Nat.ble_eq_true_of_le hd
      rw [e, cond_true, Tm.get_put]
      by_cases hk : k = d
      · subst hk
        rw [if_pos rfl]
        have : k < a.tmps.size := by rw [h.size]; exact hd
        simp [Act.put, this, hv]
      · rw [if_neg hk]
        have := h.get k
        simpa [Act.put, Ne.symm hk] using this
    · have e : Nat.blt d n = false := by
        cases hb : Nat.blt d n
        · rfl
        · exact absurd (blt hb) hd
      rw [e, cond_false]
      have hs : ¬ d < a.tmps.size := by rw [h.size]; exact hd
      have := h.get k
      simpa [Act.put, Array.setIfInBounds, hs] using this

theorem ev_sound {ι : Emb} {n : Nat} {t : Tm} {a : Act} (h : TR ι n t a.tmps) (x : Operand) : VR ι (ev t x) (a.eval x) := by
  cases x with
  | tmp k => exact h.get k
  | const v => exact VR.ofValue v
  | global g => exact .any _
  | func f => exact .fn f .nil .nil

section
variable {w0 : Base} {ι : Emb} {h : Heap} {w : World} {E : Env} {n : Nat} {t : Tm} {a : Act} {ro : Option Nat}

theorem evs_sound (T : TR ι n t a.tmps) (xs : Array Operand) : VRs ι (xs.toList.map (ev t)) (xs.map a.eval).toList := by
  rw [Array.toList_map]
  exact VRs.map_of (fun x => ev_sound T x) _

theorem parts_sound (T : TR ι n t a.tmps) (ps : Array (Nat × Operand)) : PsR ι (ps.toList.map fun p => (p.1, ev t p.2)) (ps.map fun (i, x) => (i, a.eval x)).toList := by
  rw [Array.toList_map]
  generalize ps.toList = l
  induction l with
  | nil => exact .nil
  | cons p l ih => exact .cons (ev_sound T p.2) ih

theorem opt_sound (T : TR ι n t a.tmps) (x : Option Operand) : OptR ι (x.map (ev t)) (x.map a.eval) := by
  cases x with
  | none => exact .none
  | some x => exact .some (ev_sound T x)

/-- What a call of a function comes to. -/
def CallR (w0 : Base) (ι : Emb) (r : V × Heap) (e : Ending) (w' : World) : Prop := ∃ κ v', Emb.le ι κ ∧ HR w0 κ r.2 w' ∧ VR κ r.1 v' ∧ e = .returned v'

/-- The calls are sound. -/
structure CallOK (E : Env) (w0 : Base) (call : CallF) : Prop where
  fn : ∀ f args h r, call false f args h = some r → (∃ fn, E.P.funcs[f]? = some fn ∧ fn.body.isSome = true) ∧ ∀ ι w (args' : Array Value), HR w0 ι h w → VRs ι args args'.toList → Calls E.P f args' w (CallR w0 ι r)
  yld : ∀ i args h r, call true i args h = some r → ∀ ι w (args' : Array Value) p, HR w0 ι h w → VRs ι args args'.toList → ι i = some p →
    ∃ rec : Loop, w.heap[p.blk]? = some (.loop rec) ∧ args'.size = rec.params.size ∧
      RoundIn Fence.wide 0 E.P p.blk rec.fn ((rec.params.zip args').foldl (fun tmps (t, a) => tmps.setIfInBounds t a) rec.tmps) rec.assign rec.body w (CallR w0 ι r)

/-- A fence that lets all in, in a round or not. -/
def Fen (ro : Option Nat) : Fence := { fn := fun _ => True, depth := none, alive := false, round := ro }

theorem callsIn_Fen {m : Nat} {P : Program} {f : FuncId} {args : Array Value} {R : Ending → World → Prop} (h : Calls P f args w R) : CallsIn (Fen ro) m P f args w R := (callsIn_wide (n := m)).2 h

theorem roundIn_Fen {m : Nat} {P : Program} {l : Nat} {f : FuncId} {tmps : Array Value} {assign body : Code} {R : Ending → World → Prop} (h : RoundIn Fence.wide 0 P l f tmps assign body w R) : RoundIn (Fen ro) m P l f tmps assign body w R :=
  ⟨trivial, fun c cs _ => h.2 c cs (room_wide _)⟩

variable {o : Oper} {K : Act → World → Prop} {Q : Exit → Act → World → Prop} {r : V × Heap}

theorem wp_sem (hnd : ∀ c, o.op ≠ .defer c) {s : Sem Value} (hs : SemOK E.P w0 ι s w r) (he : (execOp a.eval o).run E.P w = (do pure (Next.value (← s)) : Sem Next).run E.P w)
    (hK : ∀ κ w' v', Emb.le ι κ → HR w0 κ r.2 w' → VR κ r.1 v' → K (a.put o.dst v') w') : o.wpIn (Fen ro) 0 E.P a w K Q := by
  obtain ⟨κ, v', w', hl, H', hv, hr⟩ := hs
  refine ⟨fun _ _ => trivial, ?_⟩
  show o.uponIn _ _ _ a K Q ((o.semAt ro a.eval).run E.P w)
  rw [Oper.semAt_eq ro _ o hnd, he]
  simp only [Sem.run_bind, hr, Result.andThen_ok, Sem.run_pure]
  exact hK κ w' v' hl H' hv

theorem wp_unit (hnd : ∀ c, o.op ≠ .defer c) {s : Sem Unit} {h' : Heap} {w' : World} (hs : s.run E.P w = .ok () w') (H' : HR w0 ι h' w') (he : (execOp a.eval o).run E.P w = (do s; pure Next.skip : Sem Next).run E.P w)
    (hK : ∀ κ w' v', Emb.le ι κ → HR w0 κ h' w' → VR κ V.undef v' → K (a.put o.dst v') w') : o.wpIn (Fen ro) 0 E.P a w K Q := by
  refine ⟨fun _ _ => trivial, ?_⟩
  show o.uponIn _ _ _ a K Q ((o.semAt ro a.eval).run E.P w)
  rw [Oper.semAt_eq ro _ o hnd, he]
  simp only [Sem.run_bind, hs, Result.andThen_ok, Sem.run_pure]
  exact hK ι w' undef (Emb.le_refl ι) H' VR.undef

theorem store_one (H : HR w0 ι h w) {P : Program} {i o : Nat} {v : V} {v' : Value} {h' : Heap} {p : Pl} (hp : ι i = some p) (hd : dStoreCells i o [v] h = some h') (hv : VR ι v v') (m : Mode) :
    ∃ w', (store ⟨p.blk, p.base + o, none⟩ v' m).run P w = .ok () w' ∧ HR w0 ι h' w' := by
  have h1 : v.one = true := by
    unfold dStoreCells at hd
    split at hd
    · obtain ⟨hb, _⟩ := bif_some hd
      simp only [Bool.and_eq_true, List.all_cons] at hb
      exact hb.2.1
    · cases hd
  obtain ⟨w', hr, H'⟩ := storeCells_sound (P := P) H hp hd (.cons hv .nil)
  refine ⟨w', ?_, H'⟩
  simp only [storeCells, Sem.run_bind, add_none, Nat.add_zero] at hr
  have ho := hv.one h1
  rw [run_store P w _ v' _ ho] at hr ⊢
  cases hc : w.cell? ⟨p.blk, p.base + o, none⟩ with
  | none =>
    exfalso
    unfold dStoreCells at hd
    split at hd
    · rename_i cs k hg
      obtain ⟨hb, _⟩ := bif_some hd
      simp only [Bool.and_eq_true] at hb
      have hle := ble hb.1.2
      simp only [List.length_cons, List.length_nil] at hle
      obtain ⟨u, hu⟩ : ∃ u, cs[o]? = some u := ⟨cs[o]'(by omega), List.getElem?_eq_getElem _⟩
      obtain ⟨u', hu', _⟩ := H.cell hg hp hu
      rw [hc] at hu'; cases hu'
    · cases hd
  | some u =>
    simp only [hc] at hr ⊢
    split
    · rename_i hf; rw [if_pos hf] at hr; simp at hr
    · rename_i hf; rw [if_neg hf] at hr; simpa using hr

theorem ext_sound (H : HR w0 ι h w) {e : Ext} {args : List V} {args' : Array Value} (hargs : VRs ι args args'.toList) (hd : dExt e args h = some r) : SemOK E.P w0 ι (e.run args') w r := by
  unfold dExt at hd
  generalize hl : args'.toList = l at hargs
  have hl' : args' = l.toArray := by rw [← hl]
  subst hl'
  split at hd
  · rename_i i o
    obtain ⟨cs, hc, hd1⟩ := bind_some hd
    obtain ⟨k, hg⟩ := cells_some hc
    split at hd1
    · rename_i nn hcell
      cases hd1
      cases hargs with
      | cons h1 t =>
      cases t
      cases h1 with
      | @ptr _ _ p hp =>
      obtain ⟨v', e1, e2⟩ := H.cell hg hp hcell
      cases e2
      refine .same H (.int ..) ?_
      show ((do Extern.Atomic.read (.int .i64) (← asAddr (.pointer (some ⟨p.blk, p.base + o, none⟩))) : Sem Value)).run E.P w = _
      simp [Extern.Atomic.read, asAddr, e1]
    · cases hd1
  · rename_i i o d
    obtain ⟨cs, hc, hd1⟩ := bind_some hd
    obtain ⟨k, hg⟩ := cells_some hc
    split at hd1
    · rename_i nn hcell
      obtain ⟨h2, hst, rfl⟩ := map_some hd1
      cases hargs with
      | cons h1 t =>
      cases t with
      | cons h3 t =>
      cases t
      cases h3
      cases h1 with
      | @ptr _ _ p hp =>
      obtain ⟨v', e1, e2⟩ := H.cell hg hp hcell
      cases e2
      obtain ⟨w', hr, H'⟩ := store_one (P := E.P) H hp hst (.int ..) .atomic
      refine ⟨ι, _, w', Emb.le_refl ι, H', .int .., ?_⟩
      show ((do
        let a ← asAddr (.pointer (some ⟨p.blk, p.base + o, none⟩))
        let old ← Extern.Atomic.read (.int .i64) a
        let new ← Op.intArith .add .i64 (← asInt old) (← asInt (.int .i64 d))
        store a new .atomic
        pure (if true then new else old) : Sem Value)).run E.P w = _
      simp [Extern.Atomic.read, asAddr, e1, asInt, asIntOf, Op.intArith, hr]
    · cases hd1
  · rename_i i o nn
    obtain ⟨h2, hst, rfl⟩ := map_some hd
    cases hargs with
    | cons h1 t =>
    cases t with
    | cons h3 t =>
    cases t
    cases h3
    cases h1 with
    | @ptr _ _ p hp =>
    obtain ⟨w', hr, H'⟩ := store_one (P := E.P) H hp hst (.int ..) .atomic
    refine ⟨ι, _, w', Emb.le_refl ι, H', .tup .nil, ?_⟩
    show ((do
      store (← asAddr (.pointer (some ⟨p.blk, p.base + o, none⟩))) (.int .i64 nn) .atomic
      pure Extern.Atomic.none_ : Sem Value)).run E.P w = _
    simp [Extern.Atomic.none_, asAddr, hr]
  · cases hd

theorem call_sound (hE : EnvOK E) {call : CallF} (hc : CallOK E w0 call) (H : HR w0 ι h w) (T : TR ι n t a.tmps) {c : Call} (ho : o.op = .call c) (hd : dCall E call t c h = some r)
    (hK : ∀ κ w' v', Emb.le ι κ → HR w0 κ r.2 w' → VR κ r.1 v' → K (a.put o.dst v') w') : o.wpIn (Fen ro) 0 E.P a w K Q := by
  unfold dCall at hd
  have hnd : ∀ c, o.op ≠ .defer c := fun c h => by rw [ho] at h; cases h
  have hargs := evs_sound T c.args
  split at hd
  · rename_i b hb
    have hres : (execOp a.eval o).run E.P w = (builtin b c.argTypes o.type (c.args.map fun | .const _ => true | _ => false) (c.args.map a.eval)).run E.P w := by
      unfold execOp
      simp only [ho, resolve, hb, Sem.run_bind, Sem.run_pure, Result.andThen_ok, invoke]
      rfl
    generalize hl : (c.args.map a.eval).toList = l at hargs
    have hl' : c.args.map a.eval = l.toArray := by rw [← hl]
    rw [hl'] at hres
    generalize c.args.toList.map (ev t) = xs at hargs hd
    unfold dBuiltin at hd
    split at hd
    · rename_i x
      obtain ⟨t0, ht0, hd1⟩ := bind_some hd
      obtain ⟨v, hv, rfl⟩ := map_some hd1
      cases hargs with
      | cons h1 tl =>
      cases tl
      exact wp_sem hnd (Quiet.ok H (len_sound (ty := o.type) H ht0 h1 hv)) hres hK
    · rename_i s x
      cases hargs with
      | cons h1 tl =>
      cases tl with
      | cons h2 tl =>
      cases tl
      exact wp_sem hnd (append_sound H h1 h2 hd) hres hK
    · rename_i d s
      cases hargs with
      | cons h1 tl =>
      cases tl with
      | cons h2 tl =>
      cases tl
      exact wp_sem hnd (copy_sound H h1 h2 hd) hres hK
    · rename_i x
      cases hargs with
      | cons h1 tl =>
      cases tl
      exact wp_sem hnd (clear_sound H h1 hd) hres hK
    · rename_i m k
      cases hargs with
      | cons h1 tl =>
      cases tl with
      | cons h2 tl =>
      cases tl
      exact wp_sem hnd (delete_sound hE H h1 h2 hd) hres hK
    · obtain ⟨v, hv, rfl⟩ := map_some hd
      have := minmax_sound (E := E) (w := w) (mx := false) (ts := c.argTypes) (ty := o.type) (xs' := l.toArray) (by simpa using hargs) hv
      exact wp_sem hnd (Quiet.ok H this) hres hK
    · obtain ⟨v, hv, rfl⟩ := map_some hd
      have := minmax_sound (E := E) (w := w) (mx := true) (ts := c.argTypes) (ty := o.type) (xs' := l.toArray) (by simpa using hargs) hv
      exact wp_sem hnd (Quiet.ok H this) hres hK
    · cases hd
  · rename_i f hf
    have hev := ev_sound T f
    split at hd
    · rename_i g first captured heq
      rw [heq] at hev
      generalize hvf : a.eval f = vf at hev
      cases hev with
      | @fn _ _ _ first' captured' hf1 hf2 =>
      have hall : VRs ι (first ++ c.args.toList.map (ev t) ++ captured) ((first' ++ c.args.map a.eval) ++ captured').toList := by
        rw [Array.toList_append, Array.toList_append]
        exact (hf1.append hargs).append hf2
      have hres : (execOp a.eval o).run E.P w = (callFunc g ((first' ++ c.args.map a.eval) ++ captured')).run E.P w := by
        unfold execOp
        simp only [ho, resolve, hf, hvf, Deferred.ofValue, Sem.run_bind, Sem.run_pure, Result.andThen_ok, invoke]
      split at hd
      · rename_i e he
        obtain ⟨fn, hfn, hb, hnm, hnx, hfd⟩ := hE.ext _ _ he
        refine wp_sem hnd (ext_sound H hall hd) (hres.trans ?_) hK
        unfold callFunc
        simp only [Sem.run_bind, run_program, Result.andThen_ok, hfn, hnm, Bool.false_eq_true, if_false, hb, Option.isNone_none, if_true, run_mark]
        have hnx' : Extern.findNext fn = none := by simpa using hnx
        simp only [hnx', hfd, Sem.run_bind]
      · obtain ⟨⟨fn, hfn, hb⟩, hcall⟩ := hc.fn _ _ _ _ hd
        refine ⟨fun _ _ => trivial, ?_⟩
        show o.uponIn _ _ _ a K Q ((o.semAt ro a.eval).run E.P w)
        rw [Oper.semAt_eq ro _ o hnd, hres]
        have hrun : (callFunc g ((first' ++ c.args.map a.eval) ++ captured')).run E.P w = .ok (.enter g ((first' ++ c.args.map a.eval) ++ captured')) w := by
          unfold callFunc
          have hnb : fn.body.isNone = false := by cases hq : fn.body with
            | none => rw [hq] at hb; cases hb
            | some c => rfl
          simp only [Sem.run_bind, run_program, Result.andThen_ok, hfn, hE.name _ _ hfn hb, Bool.false_eq_true, if_false, hnb, Sem.run_pure]
        rw [hrun, Oper.uponIn_enter]
        refine ⟨fun h => (by cases h), callsIn_Fen ((hcall ι w _ H hall).mono fun e w' hR => ?_)⟩
        obtain ⟨κ, v', h1, h2, h3, rfl⟩ := hR
        exact hK κ w' v' h1 h2 h3
    · rename_i i heq
      rw [heq] at hev
      generalize hvf : a.eval f = vf at hev
      cases hev with
      | @yld _ p hp =>
      obtain ⟨rec, hrec, hsz, hround⟩ := hc.yld _ _ _ _ hd ι w (c.args.map a.eval) p H hargs hp
      refine ⟨fun _ _ => trivial, ?_⟩
      show o.uponIn _ _ _ a K Q ((o.semAt ro a.eval).run E.P w)
      have hres : (execOp a.eval o).run E.P w = (Instr.yield p.blk (c.args.map a.eval)).run E.P w := by
        unfold execOp
        simp only [ho, resolve, hf, hvf, Deferred.ofValue, Sem.run_bind, Sem.run_pure, Result.andThen_ok, invoke, Array.empty_append]
      rw [Oper.semAt_eq ro _ o hnd, hres, run_yield hrec hsz, Oper.uponIn_round]
      refine ⟨fun h => (by cases h), roundIn_Fen (hround.mono fun e w' hR => ?_)⟩
      obtain ⟨κ, v', h1, h2, h3, rfl⟩ := hR
      exact hK κ w' v' h1 h2 h3
    · cases hd
  · cases hd

end
end Go.Zs
/- A sound evaluator for the model's programs, sixteenth part: an operation, a region that draws nothing. -/
namespace Go.Zs
open Go Go.RowKit

section
variable {w0 : Base} {ι : Emb} {h : Heap} {w : World} {E : Env} {n : Nat} {t : Tm} {a : Act} {ro : Option Nat}
variable {o : Oper} {K : Act → World → Prop} {Q : Exit → Act → World → Prop} {r : V × Heap}

theorem keep_some {x : Option V} (e : keep h x = some r) : ∃ v, x = some v ∧ r = (v, h) := by
  obtain ⟨v, hv, rfl⟩ := map_some e
  exact ⟨v, hv, rfl⟩

theorem skip_some {x : Option Heap} (e : asSkip x = some r) : ∃ h', x = some h' ∧ r = (V.undef, h') := by
  obtain ⟨v, hv, rfl⟩ := map_some e
  exact ⟨v, hv, rfl⟩

theorem eqGuard_ok (hE : EnvOK E) {op : BinOp} {xt : TypeId} {x y : Operand} {vx vy : V} {x' y' : Value} (hx : VR ι vx x') (hy : VR ι vy y') (hc : (isAggV vx && !E.eqs.contains xt) = false) {v : V} (hd : dBin E op xt vx vy h = some v) :
    (eqGuard op xt x y x' y').run E.P w = .ok () w := by
  unfold eqGuard
  by_cases hop : (!(match op with | .eql | .neq => true | _ => false)) = true
  · cases op <;> first | rfl | cases hop
  · have hop2 : op = .eql ∨ op = .neq := by cases op <;> first | exact .inl rfl | exact .inr rfl | exact absurd rfl hop
    have hno : ∀ d, vx = .any → dEqual E d xt vx vy h = none := by
      rintro d rfl
      cases d with
      | zero => rfl
      | succ d => unfold dEqual; split <;> simp_all
    have hno2 : ∀ d, vy = .any → dEqual E d xt vx vy h = none := by
      rintro d rfl
      cases d with
      | zero => rfl
      | succ d => unfold dEqual; split <;> simp_all
    have hne : ∃ r, dEqual E 100 xt vx vy h = some r ∨ (∃ k a k' b, vx = .int k a ∧ vy = .int k' b) ∨ (∃ a b, vx = .str a ∧ vy = .str b) := by
      rcases hop2 with rfl | rfl
      all_goals
        unfold dBin at hd
        split at hd
        · exact ⟨true, .inr (.inl ⟨_, _, _, _, rfl, rfl⟩)⟩
        · exact ⟨true, .inr (.inl ⟨_, _, _, _, rfl, rfl⟩)⟩
        · exact ⟨true, .inr (.inl ⟨_, _, _, _, rfl, rfl⟩)⟩
        · exact ⟨true, .inr (.inr ⟨_, _, rfl, rfl⟩)⟩
        · obtain ⟨r, hr, _⟩ := map_some hd; exact ⟨r, .inl hr⟩
        · obtain ⟨r, hr, _⟩ := map_some hd; exact ⟨r, .inl hr⟩
        · cases hd
    have hvx : vx ≠ .any := by
      rintro rfl
      obtain ⟨r, h1 | ⟨_, _, _, _, h1, _⟩ | ⟨_, _, h1, _⟩⟩ := hne
      · rw [hno 100 rfl] at h1; cases h1
      · cases h1
      · cases h1
    have hvy : vy ≠ .any := by
      rintro rfl
      obtain ⟨r, h1 | ⟨_, _, _, _, _, h1⟩ | ⟨_, _, _, h1⟩⟩ := hne
      · rw [hno2 100 rfl] at h1; cases h1
      · cases h1
      · cases h1
    have hagg : ∀ cs, x' = .agg cs → E.P.eqGuardType E.P.depth xt = false := by
      rintro cs rfl
      cases hx with
      | any => exact absurd rfl hvx
      | agg =>
        simp only [isAggV, Bool.true_and, Bool.not_eq_false'] at hc
        exact (hE.eqs xt (by simpa using hc)).2
    rcases hop2 with rfl | rfl <;>
    · cases x' <;> cases y' <;> first
        | rfl
        | (cases hx <;> first | exact absurd rfl hvx | (cases hy; exact absurd rfl hvy); done)
        | (have := hagg _ rfl; simp [this]; done)

theorem op_sound (hE : EnvOK E) {call : CallF} (hc : CallOK E w0 call) (H : HR w0 ι h w) (T : TR ι n t a.tmps) (hd : dOp E call o.op t h = some r)
    (hK : ∀ κ w' v', Emb.le ι κ → HR w0 κ r.2 w' → VR κ r.1 v' → K (a.put o.dst v') w') : o.wpIn (Fen ro) 0 E.P a w K Q := by
  have hnd : ∀ c, o.op ≠ .defer c := fun c h => by rw [h] at hd; cases hd
  have go : ∀ {s : Sem Value}, (execOp a.eval o = do pure (Next.value (← s))) → SemOK E.P w0 ι s w r → o.wpIn (Fen ro) 0 E.P a w K Q := fun he hs => wp_sem hnd hs (by rw [he]) hK
  unfold dOp at hd
  split at hd
  · rename_i x ho; cases hd
    exact wp_sem hnd (s := pure (a.eval x)) (.same H (ev_sound T x) rfl) (by unfold execOp; rw [ho]; rfl) hK
  · rename_i x ho; cases hd
    exact wp_sem hnd (s := pure (a.eval x)) (.same H (ev_sound T x) rfl) (by unfold execOp; rw [ho]; rfl) hK
  · rename_i c x y ho
    have hev := ev_sound T c
    split at hd
    · rename_i heq; cases hd
      rw [heq] at hev
      generalize hvc : a.eval c = vc at hev
      cases hev
      exact wp_sem hnd (s := pure (a.eval x)) (.same H (ev_sound T x) rfl) (by unfold execOp; rw [ho]; simp [hvc, asBool]) hK
    · rename_i heq; cases hd
      rw [heq] at hev
      generalize hvc : a.eval c = vc at hev
      cases hev
      exact wp_sem hnd (s := pure (a.eval y)) (.same H (ev_sound T y) rfl) (by unfold execOp; rw [ho]; simp [hvc, asBool]) hK
    · cases hd
  · rename_i e ho
    obtain ⟨z, hz, hd1⟩ := bind_some hd
    obtain ⟨hp, hd2⟩ := bif_some hd1
    cases hd2
    exact go (by unfold execOp; rw [ho]) (alloc_sound H hz hp)
  · rename_i e x ho
    obtain ⟨hp, hd2⟩ := bif_some hd
    cases hd2
    exact go (by unfold execOp; rw [ho]) (box_sound H (ev_sound T x) hp)
  · rename_i ty ps ho
    obtain ⟨v, hv, rfl⟩ := keep_some hd
    exact go (by unfold execOp; rw [ho]) ((build_sound (parts_sound T ps) hv).ok H)
  · rename_i ty len ps ho
    exact go (by unfold execOp; rw [ho]) (buildSlice_sound H (parts_sound T ps) hd)
  · rename_i ty x ho
    have hev := ev_sound T x
    split at hd
    · rename_i i off heq
      rw [heq] at hev
      generalize hvc : a.eval x = vc at hev
      cases hev with
      | ptr hp =>
      obtain ⟨v, hv, rfl⟩ := keep_some hd
      obtain ⟨v', hr, hvv⟩ := load_sound H hp hv
      exact go (s := Instr.loadAt ty (a.eval x)) (by unfold execOp; rw [ho]) (.same H hvv (by rw [hvc]; simp only [Instr.loadAt, Instr.sureAddr, Sem.run_bind, Sem.run_pure, Result.andThen_ok]; exact hr))
    · cases hd
  · rename_i ty x y ho
    have hev := ev_sound T x
    split at hd
    · rename_i i off heq
      rw [heq] at hev
      generalize hvc : a.eval x = vc at hev
      cases hev with
      | ptr hp =>
      obtain ⟨h', hv, rfl⟩ := skip_some hd
      obtain ⟨w', hr, H'⟩ := store_sound H hp hv (ev_sound T y)
      refine wp_unit hnd (s := Instr.storeAt ty (a.eval x) (a.eval y)) (by rw [hvc]; simp only [Instr.storeAt, Instr.sureAddr, Sem.run_bind, Sem.run_pure, Result.andThen_ok]; exact hr) H' (by unfold execOp; rw [ho]) hK
    · cases hd
  · rename_i x ho
    have hev := ev_sound T x
    split at hd
    · rename_i p heq; cases hd
      rw [heq] at hev
      have hev2 := hev
      generalize hvc : a.eval x = vc at hev hev2
      cases hev with
      | ptr hp =>
      exact wp_sem hnd (s := pure (a.eval x)) (.same H (by rw [hvc]; exact hev2) rfl) (by unfold execOp; rw [ho]; simp [hvc]) hK
    · rename_i f u v heq; cases hd
      rw [heq] at hev
      have hev2 := hev
      generalize hvc : a.eval x = vc at hev hev2
      cases hev with
      | fn =>
      exact wp_sem hnd (s := pure (a.eval x)) (.same H (by rw [hvc]; exact hev2) rfl) (by unfold execOp; rw [ho]; simp [hvc]) hK
    · cases hd
  · rename_i op xt x y yt ho
    obtain ⟨hc1, hd1⟩ := bif_none hd
    obtain ⟨v, hv, rfl⟩ := keep_some hd1
    obtain ⟨v', hr, hvv⟩ := bin_sound hE H (ev_sound T x) (ev_sound T y) hv
    have hg := eqGuard_ok (w := w) (x := x) (y := y) hE (ev_sound T x) (ev_sound T y) hc1 hv
    exact go (s := do eqGuard op xt x y (a.eval x) (a.eval y); binOp op xt (a.eval x) (a.eval y)) (by unfold execOp; rw [ho]) (.same H hvv (by simp only [Sem.run_bind, hg, Result.andThen_ok]; exact hr))
  · rename_i op xt x ho
    obtain ⟨v, hv, rfl⟩ := keep_some hd
    exact go (by unfold execOp; rw [ho]) ((un_sound (ev_sound T x) hv).ok H)
  · rename_i s d x ho
    exact go (by unfold execOp; rw [ho]) (convert_sound H (ev_sound T x) hd)
  · rename_i f u v ho
    cases hd
    exact go (s := Instr.makeFunc (.func f) (u.map a.eval) (v.map a.eval)) (by unfold execOp; rw [ho]) (.same H (.fn f (evs_sound T u) (evs_sound T v)) rfl)
  · rename_i ty ho
    cases hd
    refine go (s := Instr.makeMap ty none) (by unfold execOp; rw [ho]; rfl) ⟨_, _, _, H.le_add ⟨w.heap.size, 0, 0⟩, H.new (o := .map [] [] 0) (o' := .map #[] 0) (p := ⟨w.heap.size, 0, 0⟩) rfl ⟨#[], 0, heap_alloc_new _ _, .nil, rfl, rfl⟩, .map (Emb.add_same ..), rfl⟩
  · rename_i ty l c ho
    exact go (by unfold execOp; rw [ho]) (makeSlice_sound H (ev_sound T l) (ev_sound T c) hd)
  · rename_i ty x lo hi mx ho
    obtain ⟨v, hv, rfl⟩ := keep_some hd
    exact go (by unfold execOp; rw [ho]) ((slice_sound H (ev_sound T x) (opt_sound T lo) (opt_sound T hi) (opt_sound T mx) hv).ok H)
  · rename_i s x f ho
    obtain ⟨v, hv, rfl⟩ := keep_some hd
    exact go (by unfold execOp; rw [ho]) ((fieldAddr_sound (ev_sound T x) hv).ok H)
  · rename_i s x f ho
    obtain ⟨v, hv, rfl⟩ := keep_some hd
    exact go (by unfold execOp; rw [ho]) ((field_sound (ev_sound T x) hv).ok H)
  · rename_i s x f ho
    obtain ⟨v, hv, rfl⟩ := keep_some hd
    exact go (by unfold execOp; rw [ho]) ((indexAddr_sound (ev_sound T x) (ev_sound T f) hv).ok H)
  · rename_i s x f ho
    obtain ⟨v, hv, rfl⟩ := keep_some hd
    exact go (by unfold execOp; rw [ho]) ((index_sound (ev_sound T x) (ev_sound T f) hv).ok H)
  · rename_i s x f ok ho
    obtain ⟨v, hv, rfl⟩ := keep_some hd
    exact go (by unfold execOp; rw [ho]) ((lookup_sound hE H (ev_sound T x) (ev_sound T f) hv).ok H)
  · rename_i ty m k x ho
    obtain ⟨h', hv, rfl⟩ := skip_some hd
    obtain ⟨w', hr, H'⟩ := mapUpdate_sound hE H (ev_sound T m) (ev_sound T k) (ev_sound T x) hv
    exact wp_unit hnd hr H' (by unfold execOp; rw [ho]) hK
  · rename_i ty m k x ho
    obtain ⟨h', hv, rfl⟩ := skip_some hd
    obtain ⟨w', hr, H'⟩ := mapUpdate_sound hE H (ev_sound T m) (ev_sound T k) (ev_sound T x) hv
    exact wp_unit hnd hr H' (by unfold execOp; rw [ho]) hK
  · rename_i x i ho
    obtain ⟨v, hv, rfl⟩ := keep_some hd
    exact go (by unfold execOp; rw [ho]) ((extract_sound (ev_sound T x) hv).ok H)
  · rename_i ty x ho
    exact go (by unfold execOp; rw [ho]) (range_sound H (ev_sound T x) hd)
  · rename_i x ho
    obtain ⟨v, hv, rfl⟩ := keep_some hd
    exact go (by unfold execOp; rw [ho]) ((entry_sound H (ev_sound T x) hv).ok H)
  · rename_i c ho
    exact call_sound hE hc H T ho hd hK
  · cases hd

end
end Go.Zs
/- A sound evaluator for the model's programs, seventeenth part: regions. -/
namespace Go.Zs
open Go Go.RowKit

section
variable {w0 : Base} {ι : Emb} {h : Heap} {w : World} {E : Env} {n : Nat} {t : Tm} {a : Act} {ro : Option Nat}
variable {Q : Exit → Act → World → Prop}

theorem wanted_sound {ops : Array Oper} {o : Oper} {b : Bool} (T : TR ι n t a.tmps) (hd : wantedV ops o t = some b) : Region.wanted o (yielded ops a.tmps) = b := by
  unfold wantedV at hd
  unfold Region.wanted
  cases hg : o.guard with
  | none => rw [hg] at hd; cases hd; rfl
  | some jw =>
    obtain ⟨j, want⟩ := jw
    rw [hg] at hd
    obtain ⟨d, hdst, hd1⟩ := bind_some hd
    have hv := T.get d
    unfold yielded
    simp only [hdst, Option.bind_some]
    split at hd1
    · rename_i b' heq
      cases hd1
      rw [heq] at hv
      generalize hx : a.tmps.getD d undef = x at hv
      cases hv
      have : a.tmps[d]? = some (.bool b') := by
        rw [Array.getD_eq_getD_getElem?] at hx
        cases hq : a.tmps[d]? with
        | none => rw [hq] at hx; cases hx
        | some y => rw [hq] at hx; simp at hx; rw [hx]
      simp [this]
    · rename_i vs heq
      cases hd1
      rw [heq] at hv
      generalize hx : a.tmps.getD d undef = x at hv
      cases hv
      rename_i cs' _
      rw [Array.getD_eq_getD_getElem?] at hx
      cases hq : a.tmps[d]? with
      | none => simp
      | some y => rw [hq] at hx; simp at hx; subst hx; simp
    · cases hd1

/-- One operation of a region, as the model meets it. -/
theorem step_sound (hE : EnvOK E) {call : CallF} (hc : CallOK E w0 call) (H : HR w0 ι h w) (T : TR ι n t a.tmps) {ops : Array Oper} {i : Nat} {o : Oper} (ho : ops[i]? = some o) {r : V × Heap}
    (hd : dStep E call ops o ⟨t, h⟩ = some r) {K : Act → World → Prop} (hK : ∀ κ w' v', Emb.le ι κ → HR w0 κ r.2 w' → VR κ r.1 v' → K (a.put o.dst v') w') : wpOpIn (Fen ro) 0 E.P ops Q i K a w := by
  unfold dStep at hd
  obtain ⟨b, hb, hd1⟩ := bind_some hd
  have hw := wanted_sound T hb
  unfold wpOpIn
  rw [ho]
  simp only [hw]
  cases b with
  | true =>
    simp only [if_true]
    exact op_sound hE hc H T hd1 hK
  | false =>
    simp only [cond_false] at hd1
    cases hd1
    simp only [Bool.false_eq_true, if_false]
    exact ⟨fun _ _ => trivial, hK ι w Go.undef (Emb.le_refl ι) H VR.undef⟩

theorem ops_sound (hE : EnvOK E) {call : CallF} (hc : CallOK E w0 call) {ops : Array Oper} : ∀ (l : List Oper) (k : Nat), ops.toList.drop k = l → ∀ {ι : Emb} {h : Heap} {w : World} {t : Tm} {a : Act} {s' : St}, HR w0 ι h w → TR ι n t a.tmps →
    dOps E call n ops l ⟨t, h⟩ = some s' → (∀ κ a' w', Emb.le ι κ → HR w0 κ s'.h w' → TR κ n s'.t a'.tmps → a'.defers = a.defers → Q .normal a' w') → wpOpsIn (Fen ro) 0 E.P ops Q (List.range' k l.length) a w
  | [], k, hl, ι, h, w, t, a, s', H, T, hd, hQ => by
    simp only [dOps] at hd
    cases hd
    exact hQ ι a w (Emb.le_refl ι) H T rfl
  | o :: l, k, hl, ι, h, w, t, a, s', H, T, hd, hQ => by
    have ho : ops[k]? = some o := by
      have : (ops.toList.drop k)[0]? = some o := by rw [hl]; rfl
      rw [List.getElem?_drop] at this
      simpa using this
    simp only [dOps] at hd
    obtain ⟨r, hr, hd1⟩ := bind_some hd
    show wpOpsIn (Fen ro) 0 E.P ops Q (k :: List.range' (k + 1) l.length) a w
    rw [wpOpsIn_cons]
    refine step_sound hE hc H T ho hr fun κ w' v' h1 h2 h3 => ?_
    refine ops_sound hE hc l (k + 1) (by rw [← List.drop_drop, hl]; rfl) h2 ((T.mono h1).put o.dst h3) hd1 fun μ a' w'' g1 g2 g3 g4 => hQ μ a' w'' (h1.trans' g1) g2 g3 (g4.trans (by cases o.dst <;> rfl))

theorem region_sound (hE : EnvOK E) {call : CallF} (hc : CallOK E w0 call) {ops : Array Oper} {id : Nat} {s' : St} (H : HR w0 ι h w) (T : TR ι n t a.tmps) (hd : dOps E call n ops ops.toList ⟨t, h⟩ = some s')
    (hQ : ∀ κ a' w', Emb.le ι κ → HR w0 κ s'.h w' → TR κ n s'.t a'.tmps → a'.defers = a.defers → Q .normal a' w') : (Code.region id ops false).wpIn (Fen ro) 0 E.P Q a w := by
  refine wpIn_region ?_
  have := ops_sound (ro := ro) hE hc ops.toList 0 rfl H T hd hQ
  rw [List.range_eq_range']
  simpa using this

end
end Go.Zs
/- A sound evaluator for the model's programs, eighteenth part: regions that draw their order. -/
namespace Go.Zs
open Go Go.RowKit

section congr
variable {E : Env}

/-- An operation looks at its operands alone. -/
theorem dOp_congr {call : CallF} {op : Op} {t t' : Tm} {h : Heap} (hx : ∀ x ∈ op.operands, ev t x = ev t' x) : dOp E call op t h = dOp E call op t' h := by
  have pairs : ∀ ps : Array (Nat × Operand), (∀ x ∈ ps.map (·.2), ev t x = ev t' x) → (ps.toList.map fun p => (p.1, ev t p.2)) = (ps.toList.map fun p => (p.1, ev t' p.2)) := fun ps hp =>
    List.map_congr_left fun p hm => by
      rw [hp p.2 (Array.mem_map.2 ⟨p, Array.mem_toList_iff.1 hm, rfl⟩)]
  have lst : ∀ xs : Array Operand, (∀ x ∈ xs, ev t x = ev t' x) → xs.toList.map (ev t) = xs.toList.map (ev t') := fun xs hp =>
    List.map_congr_left fun x hm => hp x (Array.mem_toList_iff.1 hm)
  cases op <;> simp only [Op.operands] at hx <;> simp only [dOp]
  case build ty ps => rw [pairs ps fun x hm => hx x (by simpa using hm)]
  case buildSlice ty len ps => rw [pairs ps fun x hm => hx x (by simpa using hm)]
  case makeFunc fn first captured =>
    cases fn <;> simp only
    rw [lst first fun x hm => hx x (by simp [hm]), lst captured fun x hm => hx x (by simp [hm])]
  case slice ty x lo hi mx => cases lo <;> cases hi <;> cases mx <;> simp_all
  case makeMap ty r => cases r <;> rfl
  case call c =>
    unfold dCall
    have hargs := lst c.args fun x hm => hx x (by simp [Call.operands, hm])
    cases hc : c.callee with
    | builtin b => simp only [hargs]
    | value f =>
      have hf := hx f (by simp [Call.operands, hc])
      simp only [hargs, hf]
    | invoke r m => rfl
  all_goals first | rfl | (simp_all; done)

theorem wanted_congr {ops : Array Oper} {o : Oper} {t t' : Tm} (hx : ∀ d ∈ o.looksAt ops, t.get d = t'.get d) : wantedV ops o t = wantedV ops o t' := by
  unfold wantedV
  cases hg : o.guard with
  | none => rfl
  | some jw =>
    obtain ⟨j, want⟩ := jw
    simp only
    cases hd : (ops[j]?).bind (·.dst) with
    | none => rfl
    | some d =>
      simp only [Option.bind_some]
      rw [hx d (by simp [Oper.looksAt, hg, hd])]

theorem dStep_congr {call : CallF} {ops : Array Oper} {o : Oper} {t t' : Tm} {h : Heap} (hx : ∀ d ∈ o.looksAt ops, t.get d = t'.get d) : dStep E call ops o ⟨t, h⟩ = dStep E call ops o ⟨t', h⟩ := by
  unfold dStep
  rw [wanted_congr hx]
  have : dOp E call o.op t h = dOp E call o.op t' h := dOp_congr fun x hm => by
    cases x with
    | tmp d => exact hx d (List.mem_append_left _ (List.mem_filterMap.2 ⟨.tmp d, by simpa using hm, rfl⟩))
    | _ => rfl
  simp only [this]

/-- An operation that may not turn the memory does not. -/
theorem quiet_heap {call : CallF} {op : Op} {t : Tm} {h : Heap} {r : V × Heap} (he : effB E op = false) (hd : dOp E call op t h = some r) : r.2 = h := by
  have kp : ∀ {x : Option V}, keep h x = some r → r.2 = h := fun e => by obtain ⟨v, _, rfl⟩ := map_some e; rfl
  unfold dOp at hd
  split at hd <;> first
    | (cases hd; rfl)
    | exact kp hd
    | (simp [effB] at he; done)
    | (cases hd; done)
    | skip
  · split at hd <;> first | (cases hd; rfl) | cases hd
  · split at hd
    · exact kp hd
    · cases hd
  · split at hd <;> first | (cases hd; rfl) | cases hd
  · obtain ⟨_, hd⟩ := bif_none hd; exact kp hd
  · rename_i s d x
    unfold dConvert at hd
    simp only [effB] at he
    split at hd
    · cases hd; rfl
    · cases hd; rfl
    · rename_i hs hdd hxx; rw [hdd] at he; cases he
    · split at hd
      · cases hd; rfl
      · cases hd
    · split at hd
      · obtain ⟨cs, _, hd1⟩ := bind_some hd
        rw [cond_eq_ite] at hd1
        split at hd1
        · cases hd1; rfl
        · obtain ⟨_, hd2⟩ := bif_some hd1
          obtain ⟨_, _, rfl⟩ := map_some hd2
          rfl
      · cases hd
    · cases hd
  · rename_i c
    unfold dCall at hd
    split at hd
    · rename_i b hb
      obtain ⟨callee, args, ats⟩ := c
      subst hb
      unfold dBuiltin at hd
      split at hd <;> first
        | (simp [effB] at he; done)
        | skip
      · obtain ⟨_, _, hd1⟩ := bind_some hd
        obtain ⟨_, _, rfl⟩ := map_some hd1
        rfl
      · obtain ⟨_, _, rfl⟩ := map_some hd; rfl
      · obtain ⟨_, _, rfl⟩ := map_some hd; rfl
      · cases hd
    · rename_i f hf
      obtain ⟨callee, args, ats⟩ := c
      subst hf
      simp [effB] at he
    · cases hd

theorem dStep_heap {call : CallF} {ops : Array Oper} {o : Oper} {t : Tm} {h : Heap} {r : V × Heap} (he : effB E o.op = false) (hd : dStep E call ops o ⟨t, h⟩ = some r) : r.2 = h := by
  unfold dStep at hd
  obtain ⟨b, _, hd1⟩ := bind_some hd
  cases b with
  | true => exact quiet_heap he hd1
  | false => cases hd1; rfl

end congr

mutual
theorem V.same_eq : ∀ (a b : V), V.same a b = true → a = b
  | .any, b, h => by cases b <;> simp [V.same] at h; rfl
  | .bool a, b, h => by cases b <;> simp [V.same] at h; rw [h]
  | .int j a, b, h => by cases b <;> simp [V.same] at h; rw [h.1, h.2]
  | .str a, b, h => by cases b <;> simp [V.same] at h; rw [beqBytes_iff] at h; rw [eq_of_beq h]
  | .ptr none, b, h => by
    cases b with
    | ptr p => cases p <;> simp [V.same] at h; rfl
    | _ => simp [V.same] at h
  | .ptr (some (a, c)), b, h => by
    cases b with
    | ptr p =>
      cases p with
      | none => simp [V.same] at h
      | some q =>
        obtain ⟨u, v⟩ := q
        simp only [V.same, Bool.and_eq_true] at h
        rw [beq h.1, beq h.2]
    | _ => simp [V.same] at h
  | .sl none l m s e, b, h => by
    cases b with
    | sl p l' m' s' e' =>
      cases p with
      | none =>
        simp only [V.same, Bool.and_eq_true] at h
        rw [beq h.1.1.1, beq h.1.1.2, beq h.1.2, eq_of_beq h.2]
      | some q => simp [V.same] at h
    | _ => simp [V.same] at h
  | .sl (some (a, c)) l m s e, b, h => by
    cases b with
    | sl p l' m' s' e' =>
      cases p with
      | none => simp [V.same] at h
      | some q =>
        obtain ⟨u, v⟩ := q
        simp only [V.same, Bool.and_eq_true] at h
        rw [beq h.1.1.1.1.1, beq h.1.1.1.1.2, beq h.1.1.1.2, beq h.1.1.2, beq h.1.2, eq_of_beq h.2]
    | _ => simp [V.same] at h
  | .map none, b, h => by
    cases b with
    | map p => cases p <;> simp [V.same] at h; rfl
    | _ => simp [V.same] at h
  | .map (some a), b, h => by
    cases b with
    | map p =>
      cases p with
      | none => simp [V.same] at h
      | some q => simp only [V.same] at h; rw [beq h]
    | _ => simp [V.same] at h
  | .fn f x y, b, h => by
    cases b with
    | fn g u v =>
      simp only [V.same, Bool.and_eq_true] at h
      rw [beq h.1.1, V.sames_eq _ _ h.1.2, V.sames_eq _ _ h.2]
    | _ => simp [V.same] at h
  | .nilFn, b, h => by cases b <;> simp [V.same] at h; rfl
  | .agg x, b, h => by
    cases b with
    | agg u => simp only [V.same] at h; rw [V.sames_eq _ _ h]
    | _ => simp [V.same] at h
  | .tup x, b, h => by
    cases b with
    | tup u => simp only [V.same] at h; rw [V.sames_eq _ _ h]
    | _ => simp [V.same] at h
theorem V.sames_eq : ∀ (a b : List V), V.sames a b = true → a = b
  | [], [], _ => rfl
  | [], _ :: _, h => by simp [V.sames] at h
  | _ :: _, [], h => by simp [V.sames] at h
  | a :: x, b :: y, h => by
    simp only [V.sames, Bool.and_eq_true] at h
    rw [V.same_eq _ _ h.1, V.sames_eq _ _ h.2]
end

/-- What the text of a region that draws its order says. -/
structure Fine (E : Env) (ops : Array Oper) (bit : Nat → Nat → Bool) : Prop where
  back : ∀ i o, ops[i]? = some o → ∀ e ∈ o.after, Region.binds .any e = true → e.on < i
  read : ∀ i j o u d, ops[i]? = some o → ops[j]? = some u → u.dst = some d → d ∈ o.looksAt ops → (j < i ∧ bit i j = true) ∨ (i < j ∧ bit j i = true)
  same : ∀ i j o u d, ops[i]? = some o → ops[j]? = some u → u.dst = some d → o.dst = some d → (j < i → bit i j = true) ∧ (i < j → bit j i = true)
  eff : ∀ i j o u, ops[i]? = some o → ops[j]? = some u → effB E o.op = true → effB E u.op = true → (j < i → bit i j = true) ∧ (i < j → bit j i = true)
  /-- What stands ahead of an operation is listed before it may be. -/
  clo : ∀ (L : Nat → Bool), (∀ j u, ops[j]? = some u → L j = true → ∀ e ∈ u.after, Region.binds .any e = true → L e.on = true) →
    ∀ i o, ops[i]? = some o → (∀ e ∈ o.after, Region.binds .any e = true → L e.on = true) → ∀ j, bit i j = true → L j = true

section draw
variable {E : Env} {ops : Array Oper} {N : Nat} {t0 : Tm} {v : Nat → V}

def dstOf (ops : Array Oper) (k : Nat) : Option Tmp := (ops[k]?).bind (·.dst)

/-- The slots behind those operations that are listed, in the text's order. -/
def tmL (ops : Array Oper) (N : Nat) (t0 : Tm) (v : Nat → V) (L : Nat → Bool) : Nat → Tm
  | 0 => t0
  | k + 1 => bif L k then putV N (tmL ops N t0 v L k) (dstOf ops k) (v k) else tmL ops N t0 v L k

def addL (L : Nat → Bool) (i : Nat) : Nat → Bool := fun j => bif decide (j = i) then true else L j

theorem addL_same (L : Nat → Bool) (i : Nat) : addL L i i = true := by simp [addL]
theorem addL_ne (L : Nat → Bool) {i j : Nat} (h : j ≠ i) : addL L i j = L j := by simp [addL, h]

theorem putV_get (t : Tm) (dst : Option Tmp) (u : V) (x : Nat) : (putV N t dst u).get x = if dst = some x ∧ x < N then u else t.get x := by
  cases dst with
  | none => rfl
  | some d =>
    unfold putV
    simp only
    by_cases hd : d < N
    · have e : Nat.blt d N = true := Nat.ble_eq_true_of_le hd
      rw [e, cond_true, Tm.get_put]
      by_cases hx : x = d
      · subst hx; simp [hd]
      · rw [if_neg hx, if_neg (by simp; intro e; exact absurd e.symm hx)]
    · have e : Nat.blt d N = false := by
        cases hb : Nat.blt d N
        · rfl
        · exact absurd (blt hb) hd
      rw [e, cond_false, if_neg]
      rintro ⟨e1, e2⟩
      cases e1
      exact hd e2

theorem tmL_agree {L L' : Nat → Bool} {x : Nat} : ∀ k, (∀ j, j < k → dstOf ops j = some x → L j = L' j) → (tmL ops N t0 v L k).get x = (tmL ops N t0 v L' k).get x
  | 0, _ => rfl
  | k + 1, h => by
    have ih := tmL_agree k fun j hj e => h j (by omega) e
    simp only [tmL]
    by_cases hx : dstOf ops k = some x
    · have := h k (by omega) hx
      rw [this]
      cases L' k
      · exact ih
      · simp only [cond_true]; rw [putV_get, putV_get, ih]
    · have key : ∀ t : Tm, (putV N t (dstOf ops k) (v k)).get x = t.get x := fun t => by rw [putV_get, if_neg (fun e => hx e.1)]
      cases L k <;> cases L' k <;> simp only [cond_true, cond_false, key, ih]

/-- Those ahead of a place alone. -/
theorem tmL_prefix {i : Nat} : ∀ k, i ≤ k → tmL ops N t0 v (fun j => decide (j < i)) k = tmL ops N t0 v (fun _ => true) i := by
  have low : ∀ k, k ≤ i → tmL ops N t0 v (fun j => decide (j < i)) k = tmL ops N t0 v (fun _ => true) k := by
    intro k
    induction k with
    | zero => intro _; rfl
    | succ k ih =>
      intro hk
      have e : decide (k < i) = true := by simp; omega
      simp only [tmL, e, cond_true]
      rw [ih (by omega)]
  intro k hk
  induction k with
  | zero => have : i = 0 := by omega
            subst this; rfl
  | succ k ih =>
    by_cases h : i ≤ k
    · have e : decide (k < i) = false := by simp; omega
      simp only [tmL, e, cond_false]
      exact ih h
    · have : i = k + 1 := by omega
      subst this
      exact low _ (Nat.le_refl _)

/-- One more is listed. -/
theorem tmL_add {L : Nat → Bool} {i : Nat} (hi : L i = false) (hno : ∀ j, i < j → L j = true → dstOf ops j ≠ dstOf ops i ∨ dstOf ops i = none) : ∀ k, i < k → ∀ x,
    (tmL ops N t0 v (addL L i) k).get x = (putV N (tmL ops N t0 v L k) (dstOf ops i) (v i)).get x := by
  have low : ∀ k, k ≤ i → tmL ops N t0 v (addL L i) k = tmL ops N t0 v L k := by
    intro k
    induction k with
    | zero => intro _; rfl
    | succ k ih =>
      intro hk
      simp only [tmL]
      rw [ih (by omega), addL_ne L (show k ≠ i from by omega)]
  intro k hk x
  induction k with
  | zero => omega
  | succ k ih =>
    by_cases h : k = i
    · subst h
      simp only [tmL]
      rw [low k (Nat.le_refl _), addL_same, hi]
      rfl
    · have ih := ih (by omega)
      simp only [tmL]
      rw [addL_ne L h]
      cases hL : L k with
      | true =>
        simp only [cond_true]
        rw [putV_get, putV_get, putV_get, ih, putV_get]
        rcases hno k (by omega) hL with hne | hne
        · by_cases h1 : dstOf ops k = some x ∧ x < N
          · rw [if_pos h1, if_neg, if_pos h1]
            rintro ⟨e, _⟩
            exact hne (h1.1.trans e.symm)
          · rw [if_neg h1, if_neg h1]
        · rw [hne]
          simp
      | false => exact ih

end draw
end Go.Zs
/- A sound evaluator for the model's programs, nineteenth part: whatever the order, a region comes to one end. -/
namespace Go.Zs
open Go Go.RowKit

/-- How many of the first are marked by both. -/
def cntL (F L : Nat → Bool) : Nat → Nat
  | 0 => 0
  | k + 1 => cntL F L k + (bif F k && L k then 1 else 0)

theorem cntL_mono {F A B : Nat → Bool} : ∀ k, (∀ j, j < k → F j = true → A j = true → B j = true) → cntL F A k ≤ cntL F B k
  | 0, _ => Nat.le_refl _
  | k + 1, h => by
    have ih := cntL_mono k fun j hj => h j (by omega)
    simp only [cntL]
    have := h k (by omega)
    cases hF : F k <;> cases hA : A k <;> cases hB : B k <;> simp_all <;> omega

theorem cntL_congr {F A B : Nat → Bool} (k : Nat) (h : ∀ j, j < k → F j = true → A j = B j) : cntL F A k = cntL F B k :=
  Nat.le_antisymm (cntL_mono k fun j hj hF hA => by rw [← h j hj hF]; exact hA) (cntL_mono k fun j hj hF hB => by rw [h j hj hF]; exact hB)

theorem cntL_apart {F A B : Nat → Bool} : ∀ k, (∀ j, j < k → F j = true → A j = true → B j = true → False) → cntL F A k + cntL F B k ≤ cntL F (fun _ => true) k
  | 0, _ => Nat.le_refl _
  | k + 1, h => by
    have ih := cntL_apart k fun j hj => h j (by omega)
    simp only [cntL]
    have := h k (by omega)
    cases hF : F k <;> cases hA : A k <;> cases hB : B k <;> simp_all <;> omega

theorem cntL_prefix {F : Nat → Bool} {i : Nat} : ∀ k, i ≤ k → cntL F (fun j => decide (j < i)) k = cntL F (fun _ => true) i := by
  intro k hk
  induction k with
  | zero => have : i = 0 := by omega
            subst this; rfl
  | succ k ih =>
    by_cases h : i ≤ k
    · simp only [cntL]
      rw [ih h]
      have e : decide (k < i) = false := by simp; omega
      simp [e]
    · have : i = k + 1 := by omega
      subst this
      exact cntL_congr _ fun j hj _ => by simp; omega

theorem cntL_add {F L : Nat → Bool} {i : Nat} (hi : L i = false) : ∀ k, i < k → cntL F (addL L i) k = cntL F L k + (bif F i then 1 else 0) := by
  intro k hk
  induction k with
  | zero => omega
  | succ k ih =>
    by_cases h : k = i
    · subst h
      have : cntL F (addL L k) k = cntL F L k := cntL_congr _ fun j hj _ => addL_ne L (by omega)
      simp only [cntL]
      rw [this, addL_same, hi]
      cases F k <;> simp
    · simp only [cntL]
      rw [ih (by omega), addL_ne L h]
      omega

section draw
variable {E : Env} {ops : Array Oper} {N : Nat} {t0 : Tm} {v : Nat → V} {w0 : Base} {ro : Option Nat}

def effAt (E : Env) (ops : Array Oper) (i : Nat) : Bool := match ops[i]? with | some o => effB E o.op | none => false

theorem effAt_some {i : Nat} {o : Oper} (h : ops[i]? = some o) : effAt E ops i = effB E o.op := by simp [effAt, h]

/-- The steps of the text's order, and that those which turn nothing are steady. -/
structure Steps (E : Env) (call : CallF) (ops : Array Oper) (bit : Nat → Nat → Bool) (N : Nat) (t0 : Tm) (v : Nat → V) (S : Nat → Heap) : Prop where
  eff : ∀ i o, ops[i]? = some o → effB E o.op = true → dStep E call ops o ⟨tmL ops N t0 v (fun _ => true) i, S (cntL (effAt E ops) (fun _ => true) i)⟩ = some (v i, S (cntL (effAt E ops) (fun _ => true) i + 1))
  quiet : ∀ i o, ops[i]? = some o → effB E o.op = false → ∀ k, cntL (effAt E ops) (fun j => bit i j) ops.size ≤ k → k + cntL (effAt E ops) (fun j => bit j i) ops.size ≤ cntL (effAt E ops) (fun _ => true) ops.size →
    dStep E call ops o ⟨tmL ops N t0 v (fun _ => true) i, S k⟩ = some (v i, S k)

def unL (L : Nat → Bool) (n : Nat) : Nat := cntL (fun j => !L j) (fun _ => true) n

theorem unL_add {L : Nat → Bool} {i : Nat} (hi : L i = false) : ∀ n, i < n → unL (addL L i) n + 1 = unL L n := by
  intro n hn
  induction n with
  | zero => omega
  | succ k ih =>
    unfold unL at *
    simp only [cntL]
    by_cases h : k = i
    · subst h
      have low : ∀ m, m ≤ k → cntL (fun j => !addL L k j) (fun _ => true) m = cntL (fun j => !L j) (fun _ => true) m := by
        intro m
        induction m with
        | zero => intro _; rfl
        | succ m ihm =>
          intro hm
          simp only [cntL]
          rw [ihm (by omega), addL_ne L (show m ≠ k from by omega)]
      rw [low k (Nat.le_refl _), addL_same, hi]
      rfl
    · rw [addL_ne L h]
      have := ih (by omega)
      omega

theorem unL_zero {L : Nat → Bool} : ∀ n, unL L n = 0 → ∀ j, j < n → L j = true := by
  intro n
  induction n with
  | zero => intro _ j hj; omega
  | succ k ih =>
    intro h j hj
    unfold unL at *
    simp only [cntL] at h
    by_cases hk : j = k
    · subst hk
      cases hL : L j with
      | true => rfl
      | false => rw [hL] at h; simp at h
    · exact ih (by omega) j (by omega)

theorem unL_pos {L : Nat → Bool} : ∀ n, unL L n ≠ 0 → ∃ j, j < n ∧ L j = false ∧ ∀ k, k < j → L k = true := by
  intro n
  induction n with
  | zero => intro h; exact absurd rfl h
  | succ k ih =>
    intro h
    by_cases h0 : unL L k = 0
    · refine ⟨k, by omega, ?_, unL_zero k h0⟩
      unfold unL at *
      simp only [cntL, h0] at h
      cases hL : L k with
      | false => rfl
      | true => rw [hL] at h; simp at h
    · obtain ⟨j, h1, h2, h3⟩ := ih h0
      exact ⟨j, by omega, h2, h3⟩

theorem draw_any (hE : EnvOK E) {call : CallF} (hc : CallOK E w0 call) {bit : Nat → Nat → Bool} (hf : Fine E ops bit) {S : Nat → Heap} (hs : Steps E call ops bit N t0 v S) {Q : Exit → Act → World → Prop} (defs : List Deferred) :
    ∀ (fuel : Nat) (listed : Array Bool) (ι : Emb) (a : Act) (w : World), listed.size = ops.size →
      (∀ j u, ops[j]? = some u → listed.getD j false = true → ∀ e ∈ u.after, Region.binds .any e = true → listed.getD e.on false = true) →
      unL (fun j => listed.getD j false) ops.size ≤ fuel →
      HR w0 ι (S (cntL (effAt E ops) (fun j => listed.getD j false) ops.size)) w → TR ι N (tmL ops N t0 v (fun j => listed.getD j false) ops.size) a.tmps → a.defers = defs →
      (∀ κ a' w', Emb.le ι κ → HR w0 κ (S (cntL (effAt E ops) (fun _ => true) ops.size)) w' → TR κ N (tmL ops N t0 v (fun _ => true) ops.size) a'.tmps → a'.defers = defs → Q .normal a' w') →
      wpAnyIn (Fen ro) 0 E.P .any ops Q fuel listed a w := by
  intro fuel
  induction fuel with
  | zero =>
    intro listed ι a w hsz hcl hun H T hdef hQ
    have hall := unL_zero _ (Nat.le_zero.1 hun)
    refine ⟨?_, hQ ι a w (Emb.le_refl ι) ?_ ?_ hdef⟩
    · cases hr : Region.ready .any ops listed with
      | nil => rfl
      | cons i l =>
        have : i ∈ Region.ready .any ops listed := by rw [hr]; exact List.mem_cons_self ..
        obtain ⟨h0, o, ho, _⟩ := mem_ready.1 this
        have hi : i < ops.size := (Array.getElem?_eq_some_iff.1 ho).1
        have := hall i hi
        have hi2 : i < listed.size := by omega
        simp [hi2] at h0 this
        rw [h0] at this; cases this
    · rw [cntL_congr ops.size (B := fun _ => true) fun j hj _ => hall j hj] at H; exact H
    · refine ⟨T.size, fun k => ?_⟩
      rw [← tmL_agree (L := fun j => listed.getD j false) ops.size fun j hj _ => hall j hj]
      exact T.get k
  | succ fuel ih =>
    intro listed ι a w hsz hcl hun H T hdef hQ
    refine ⟨fun hr => ?_, fun i hi => ?_⟩
    · -- none is ready: all are listed
      by_cases h0 : unL (fun j => listed.getD j false) ops.size = 0
      · have hall := unL_zero _ h0
        refine hQ ι a w (Emb.le_refl ι) ?_ ?_ hdef
        · rw [cntL_congr ops.size (B := fun _ => true) fun j hj _ => hall j hj] at H; exact H
        · refine ⟨T.size, fun k => ?_⟩
          rw [← tmL_agree (L := fun j => listed.getD j false) ops.size fun j hj _ => hall j hj]
          exact T.get k
      · exfalso
        obtain ⟨j, hj, hL, hlow⟩ := unL_pos _ h0
        obtain ⟨o, ho⟩ : ∃ o, ops[j]? = some o := ⟨ops[j], Array.getElem?_eq_getElem hj⟩
        have : j ∈ Region.ready .any ops listed := by
          refine mem_ready.2 ⟨?_, o, ho, fun e he hb => hlow e.on (hf.back j o ho e he hb)⟩
          have hj2 : j < listed.size := by omega
          simp [hj2] at hL ⊢
          exact hL
        rw [hr] at this; cases this
    · obtain ⟨h0, o, ho, hdeps⟩ := mem_ready.1 hi
      have hin : i < ops.size := (Array.getElem?_eq_some_iff.1 ho).1
      have hi2 : i < listed.size := by omega
      let L : Nat → Bool := fun j => listed.getD j false
      have hLi : L i = false := by simp [L, hi2] at h0 ⊢; exact h0
      have hclo := hf.clo L hcl
      have hdown := hclo i o ho hdeps
      have hup : ∀ j u, ops[j]? = some u → L j = true → bit j i = true → False := by
        intro j u hj hL hb
        have := hclo j u hj (hcl j u hj hL) i hb
        rw [hLi] at this; cases this
      have hL' : ∀ j, (listed.setIfInBounds i true).getD j false = addL L i j := by
        intro j
        by_cases hj : j = i
        · subst hj
          rw [addL_same]
          simp [hi2]
        · rw [addL_ne L hj, getD_set_ne false (Ne.symm hj)]
      have hcl' : ∀ j u, ops[j]? = some u → (listed.setIfInBounds i true).getD j false = true → ∀ e ∈ u.after, Region.binds .any e = true → (listed.setIfInBounds i true).getD e.on false = true := by
        intro j u hj hLj e he hb
        by_cases hji : j = i
        · subst hji
          rw [ho] at hj; cases hj
          exact getD_set_true (hdeps e he hb)
        · rw [hL', addL_ne L hji] at hLj
          exact getD_set_true (hcl j u hj hLj e he hb)
      have hun' : unL (fun j => (listed.setIfInBounds i true).getD j false) ops.size ≤ fuel := by
        have e : (fun j => (listed.setIfInBounds i true).getD j false) = addL L i := funext hL'
        rw [e]
        have := unL_add hLi ops.size hin
        have h2 : unL L ops.size ≤ fuel + 1 := hun
        omega
      -- the slots that it looks at are as in the text's order
      have hlook : ∀ d ∈ o.looksAt ops, (tmL ops N t0 v L ops.size).get d = (tmL ops N t0 v (fun _ => true) i).get d := by
        intro d hd
        rw [← tmL_prefix (i := i) ops.size (by omega)]
        refine tmL_agree ops.size fun j hj hdst => ?_
        obtain ⟨u, hu⟩ : ∃ u, ops[j]? = some u := ⟨ops[j], Array.getElem?_eq_getElem hj⟩
        have hud : u.dst = some d := by simpa [dstOf, hu] using hdst
        rcases hf.read i j o u d ho hu hud hd with ⟨h1, h2⟩ | ⟨h1, h2⟩
        · rw [hdown j h2]; simp [h1]
        · have : L j = false := by
            cases hq : L j with
            | false => rfl
            | true => exact (hup j u hu hq h2).elim
          rw [this]; simp; omega
      -- one step more
      have step : ∀ r, r.1 = v i → r.2 = S (cntL (effAt E ops) (addL L i) ops.size) → dStep E call ops o ⟨tmL ops N t0 v L ops.size, S (cntL (effAt E ops) L ops.size)⟩ = some r →
          wpOpIn (Fen ro) 0 E.P ops Q i (wpAnyIn (Fen ro) 0 E.P .any ops Q fuel (listed.setIfInBounds i true)) a w := by
        intro r hr1 hr2 hd
        refine step_sound hE hc H T ho hd fun κ w' v' g1 g2 g3 => ?_
        have e : (fun j => (listed.setIfInBounds i true).getD j false) = addL L i := funext hL'
        refine ih (listed.setIfInBounds i true) κ _ w' (by simp [hsz]) hcl' hun' ?_ ?_ (by rw [← hdef]; cases o.dst <;> rfl) fun μ a' w'' f1 f2 f3 f4 => hQ μ a' w'' (g1.trans' f1) f2 f3 f4
        · rw [e, ← hr2]; exact g2
        · rw [e]
          rw [hr1] at g3
          have hput := (T.mono g1).put o.dst g3
          refine ⟨hput.size, fun k => ?_⟩
          have hadd := tmL_add (ops := ops) (N := N) (t0 := t0) (v := v) hLi (fun j hj hLj => by
            by_cases hnone : dstOf ops i = none
            · exact .inr hnone
            · refine .inl fun heq => ?_
              have hj2 : j < ops.size := by
                rcases Nat.lt_or_ge j ops.size with h | h
                · exact h
                · exfalso
                  have : listed.getD j false = false := by
                    have : ¬ j < listed.size := by omega
                    simp [this]
                  have h2 : listed.getD j false = true := hLj
                  rw [this] at h2; cases h2
              obtain ⟨u, hu⟩ : ∃ u, ops[j]? = some u := ⟨ops[j], Array.getElem?_eq_getElem hj2⟩
              obtain ⟨d, hd2⟩ : ∃ d, o.dst = some d := by
                cases hq : o.dst with
                | none => exact absurd (by simp [dstOf, ho, hq]) hnone
                | some d => exact ⟨d, rfl⟩
              have hud : u.dst = some d := by
                have : dstOf ops j = dstOf ops i := heq
                simpa [dstOf, ho, hu, hd2] using this
              exact hup j u hu hLj ((hf.same i j o u d ho hu hud hd2).2 hj)) ops.size hin k
          rw [hadd]
          have : dstOf ops i = o.dst := by simp [dstOf, ho]
          rw [this]
          exact hput.get k
      cases he : effB E o.op with
      | true =>
        have hpos : cntL (effAt E ops) L ops.size = cntL (effAt E ops) (fun _ => true) i := by
          rw [← cntL_prefix (i := i) ops.size (by omega)]
          refine cntL_congr _ fun j hj hF => ?_
          obtain ⟨u, hu⟩ : ∃ u, ops[j]? = some u := ⟨ops[j], Array.getElem?_eq_getElem hj⟩
          rw [effAt_some hu] at hF
          have hb := hf.eff i j o u ho hu he hF
          rcases Nat.lt_trichotomy j i with h1 | h1 | h1
          · rw [hdown j (hb.1 h1)]; simp [h1]
          · subst h1; rw [hLi]; simp
          · have : L j = false := by
              cases hq : L j with
              | false => rfl
              | true => exact (hup j u hu hq (hb.2 h1)).elim
            rw [this]; simp; omega
        refine step (v i, S (cntL (effAt E ops) (fun _ => true) i + 1)) rfl ?_ ?_
        · rw [cntL_add hLi ops.size hin, hpos, effAt_some ho, he]; rfl
        · rw [dStep_congr hlook, hpos]
          exact hs.eff i o ho he
      | false =>
        refine step (v i, S (cntL (effAt E ops) L ops.size)) rfl ?_ ?_
        · rw [cntL_add hLi ops.size hin, effAt_some ho, he]; rfl
        · rw [dStep_congr hlook]
          refine hs.quiet i o ho he _ (cntL_mono _ fun j hj _ hb => hdown j hb) ?_
          refine cntL_apart _ fun j hj _ hLj hb => ?_
          obtain ⟨u, hu⟩ : ∃ u, ops[j]? = some u := ⟨ops[j], Array.getElem?_eq_getElem hj⟩
          exact hup j u hu hLj hb

end draw
end Go.Zs
/- A sound evaluator for the model's programs, twentieth part: regions that draw their order, as they are reckoned. -/
namespace Go.Zs
open Go Go.RowKit

section
variable {E : Env} {ops : Array Oper} {N : Nat} {t0 : Tm} {v : Nat → V} {w0 : Base} {ro : Option Nat} {call : CallF}

def bitOf (ops : Array Oper) (i j : Nat) : Bool := ((masks ops.toList []).getD i 0).testBit j

theorem maskOf_bit {acc : List Nat} : ∀ (es : List Edge) (s j : Nat), (es.foldl (fun s e => bif Region.binds .any e then s ||| (2 ^ e.on ||| acc.getD e.on 0) else s) s).testBit j = true →
    s.testBit j = true ∨ ∃ e ∈ es, Region.binds .any e = true ∧ (j = e.on ∨ (acc.getD e.on 0).testBit j = true)
  | [], s, j, h => .inl h
  | e :: es, s, j, h => by
    rw [List.foldl_cons] at h
    rcases maskOf_bit es _ j h with h1 | ⟨e', h1, h2, h3⟩
    · cases hb : Region.binds .any e with
      | true =>
        rw [hb, cond_true] at h1
        simp only [Nat.testBit_or, Bool.or_eq_true, Nat.testBit_two_pow, decide_eq_true_eq] at h1
        rcases h1 with h1 | h1 | h1
        · exact .inl h1
        · exact .inr ⟨e, List.mem_cons_self .., hb, .inl h1.symm⟩
        · exact .inr ⟨e, List.mem_cons_self .., hb, .inr h1⟩
      | false => rw [hb] at h1; exact .inl h1
    · exact .inr ⟨e', List.mem_cons_of_mem _ h1, h2, h3⟩

theorem masks_clo (L : Nat → Bool) (hL : ∀ j u, ops[j]? = some u → L j = true → ∀ e ∈ u.after, Region.binds .any e = true → L e.on = true) : ∀ (l : List Oper) (acc : List Nat), ops.toList.drop acc.length = l →
    (∀ (i : Nat) (o : Oper) (m : Nat), ops[i]? = some o → acc[i]? = some m → (∀ e ∈ o.after, Region.binds .any e = true → L e.on = true) → ∀ j, m.testBit j = true → L j = true) →
    ∀ (i : Nat) (o : Oper) (m : Nat), ops[i]? = some o → (masks l acc)[i]? = some m → (∀ e ∈ o.after, Region.binds .any e = true → L e.on = true) → ∀ j, m.testBit j = true → L j = true
  | [], acc, _, ha => ha
  | u :: l, acc, hl, ha => by
    refine masks_clo L hL l (acc ++ [maskOf acc u]) (by rw [List.length_append, List.length_singleton, ← List.drop_drop, hl]; rfl) ?_
    intro i o m ho hm hdep j hj
    by_cases hi : i < acc.length
    · rw [List.getElem?_append_left hi] at hm
      exact ha i o m ho hm hdep j hj
    · rw [List.getElem?_append_right (by omega)] at hm
      have hi2 : i = acc.length := by
        have := (List.getElem?_eq_some_iff.1 hm).1
        simp at this; omega
      subst hi2
      simp at hm
      subst hm
      have hu : ops[acc.length]? = some u := by
        have : (ops.toList.drop acc.length)[0]? = some u := by rw [hl]; rfl
        rw [List.getElem?_drop] at this
        simpa using this
      rw [hu] at ho; cases ho
      rcases maskOf_bit u.after.toList 0 j hj with h1 | ⟨e, h1, h2, h3⟩
      · simp at h1
      · have he : e ∈ u.after := by simpa using h1
        have hon := hdep e he h2
        rcases h3 with rfl | h3
        · exact hon
        · cases hq : acc[e.on]? with
          | none => simp [List.getD, hq] at h3
          | some m' =>
            simp [List.getD, hq] at h3
            have hlt : e.on < acc.length := (List.getElem?_eq_some_iff.1 hq).1
            have hlt2 : acc.length < ops.size := (Array.getElem?_eq_some_iff.1 hu).1
            obtain ⟨o', ho'⟩ : ∃ o', ops[e.on]? = some o' := ⟨ops[e.on]'(by omega), Array.getElem?_eq_getElem _⟩
            exact ha e.on o' m' ho' hq (hL e.on o' ho' hon) j h3

theorem fine_of (h : okRegion E ops = true) : Fine E ops (bitOf ops) := by
  unfold okRegion at h
  simp only [List.all_eq_true, List.mem_range, Array.length_toList, Array.getElem?_toList] at h
  have get : ∀ i o, ops[i]? = some o → i < ops.size := fun i o ho => (Array.getElem?_eq_some_iff.1 ho).1
  have main : ∀ i o, ops[i]? = some o → (∀ e ∈ o.after, Region.binds .any e = true → e.on < i) ∧ ∀ j u, ops[j]? = some u →
      (∀ d, u.dst = some d → (d ∈ o.looksAt ops → (j < i ∧ bitOf ops i j = true) ∨ (i < j ∧ bitOf ops j i = true)) ∧ (o.dst = some d → (j < i → bitOf ops i j = true) ∧ (i < j → bitOf ops j i = true))) ∧
      (effB E o.op = true → effB E u.op = true → (j < i → bitOf ops i j = true) ∧ (i < j → bitOf ops j i = true)) := by
    intro i o ho
    have hi := h i (get i o ho)
    rw [ho] at hi
    simp only [Bool.and_eq_true] at hi
    obtain ⟨⟨h1, h2⟩, h3⟩ := hi
    have tri : ∀ {j : Nat} {z : Bool}, (bif Nat.blt j i then bitOf ops i j else bif Nat.blt i j then bitOf ops j i else z) = true → (j < i → bitOf ops i j = true) ∧ (i < j → bitOf ops j i = true) ∧ (j = i → z = true) := by
      intro j z hz
      refine ⟨fun hlt => ?_, fun hlt => ?_, fun heq => ?_⟩
      · rw [show Nat.blt j i = true from Nat.ble_eq_true_of_le hlt] at hz; exact hz
      · have : Nat.blt j i = false := by
          cases hb : Nat.blt j i
          · rfl
          · have := blt hb; omega
        rw [this, show Nat.blt i j = true from Nat.ble_eq_true_of_le hlt] at hz; exact hz
      · subst heq
        have : Nat.blt j j = false := by
          cases hb : Nat.blt j j
          · rfl
          · have := blt hb; omega
        rw [this] at hz; exact hz
    refine ⟨?_, fun j u hu => ?_⟩
    · intro e he hb
      have hh : (o.after.toList.all fun e => !Region.binds .any e || decide (e.on < i)) = true := h1
      rw [List.all_eq_true] at hh
      have := hh e (by simpa using he)
      rw [hb] at this
      simpa using this
    · have hj := List.all_eq_true.1 h3 j (List.mem_range.2 (get j u hu))
      rw [hu] at hj
      simp only [Bool.and_eq_true] at hj
      obtain ⟨g1, g2⟩ := hj
      refine ⟨fun d hd => ?_, fun e1 e2 => ?_⟩
      · rw [hd] at g1
        simp only [Bool.and_eq_true] at g1
        obtain ⟨k1, k2⟩ := g1
        refine ⟨fun hm => ?_, fun hs => ?_⟩
        · have : (o.looksAt ops).contains d = true := by simpa using hm
          rw [this, cond_true] at k1
          obtain ⟨a1, a2, a3⟩ := tri k1
          rcases Nat.lt_trichotomy j i with h4 | h4 | h4
          · exact .inl ⟨h4, a1 h4⟩
          · exact absurd (a3 h4) (by simp)
          · exact .inr ⟨h4, a2 h4⟩
        · have : (o.dst == some d) = true := by rw [hs]; simp
          rw [this, cond_true] at k2
          obtain ⟨a1, a2, _⟩ := tri k2
          exact ⟨a1, a2⟩
      · rw [e1, e2] at g2
        simp only [Bool.and_self, cond_true] at g2
        obtain ⟨a1, a2, _⟩ := tri g2
        exact ⟨a1, a2⟩
  exact {
    back := fun i o ho => (main i o ho).1
    read := fun i j o u d ho hu hd hl => (((main i o ho).2 j u hu).1 d hd).1 hl
    same := fun i j o u d ho hu hd hd2 => (((main i o ho).2 j u hu).1 d hd).2 hd2
    eff := fun i j o u ho hu h1 h2 => ((main i o ho).2 j u hu).2 h1 h2
    clo := fun L hL i o ho hdep j hb => by
      unfold bitOf at hb
      cases hq : (masks ops.toList [])[i]? with
      | none => simp [List.getD, hq] at hb
      | some m =>
        simp [List.getD, hq] at hb
        exact masks_clo L hL ops.toList [] rfl (by simp) i o m ho hq hdep j hb }

theorem pos_mono (F : Nat → Bool) {i j : Nat} (h : i ≤ j) : cntL F (fun _ => true) i ≤ cntL F (fun _ => true) j := by
  induction j with
  | zero => have : i = 0 := by omega
            subst this; exact Nat.le_refl _
  | succ j ih =>
    by_cases hi : i ≤ j
    · have := ih hi; simp only [cntL]; omega
    · have : i = j + 1 := by omega
      subst this; exact Nat.le_refl _

abbrev posAt (E : Env) (ops : Array Oper) (i : Nat) : Nat := cntL (effAt E ops) (fun _ => true) i

theorem posAt_succ {i : Nat} {o : Oper} (h : ops[i]? = some o) : posAt E ops (i + 1) = posAt E ops i + (bif effB E o.op then 1 else 0) := by
  simp only [posAt, cntL, effAt_some h, Bool.and_true]

instance : Inhabited Heap := ⟨⟨0, .leaf⟩⟩

theorem pass1_spec : ∀ (l : List Oper) (i : Nat) (s : St) (recs : List (Tm × V)) (snaps : List Heap) (fin : St), ops.toList.drop i = l → pass1 E call N ops l s = some (recs, snaps, fin) →
    (∀ j x, recs[j]? = some x → v (i + j) = x.2) → s.t = tmL ops N t0 v (fun _ => true) i →
    recs.length = l.length ∧ (∃ rest, snaps = s.h :: rest) ∧ snaps.length = posAt E ops (i + l.length) - posAt E ops i + 1 ∧
    fin.t = tmL ops N t0 v (fun _ => true) (i + l.length) ∧ fin.h = snaps.getD (posAt E ops (i + l.length) - posAt E ops i) default ∧
    ∀ j o, l[j]? = some o → (∃ vv, recs[j]? = some (tmL ops N t0 v (fun _ => true) (i + j), vv)) ∧
      dStep E call ops o ⟨tmL ops N t0 v (fun _ => true) (i + j), snaps.getD (posAt E ops (i + j) - posAt E ops i) default⟩ =
        some (v (i + j), snaps.getD (posAt E ops (i + j) - posAt E ops i + (bif effB E o.op then 1 else 0)) default)
  | [], i, s, recs, snaps, fin, hl, hp, hv, ht => by
    simp only [pass1] at hp
    cases hp
    refine ⟨rfl, ⟨[], rfl⟩, by simp, ht, by simp, fun j o h => by simp at h⟩
  | o :: l, i, s, recs, snaps, fin, hl, hp, hv, ht => by
    simp only [pass1] at hp
    obtain ⟨r, hr, hp1⟩ := bind_some hp
    obtain ⟨⟨recs', snaps', fin'⟩, hrest, hp2⟩ := map_some hp1
    cases hp2
    have ho : ops[i]? = some o := by
      have : (ops.toList.drop i)[0]? = some o := by rw [hl]; rfl
      rw [List.getElem?_drop] at this
      simpa using this
    have hv0 : v i = r.1 := by simpa using hv 0 (s.t, r.1) rfl
    have hdst : dstOf ops i = o.dst := by simp [dstOf, ho]
    have ht' : putV N s.t o.dst r.1 = tmL ops N t0 v (fun _ => true) (i + 1) := by
      simp only [tmL, cond_true]
      rw [hdst, hv0, ht]
    obtain ⟨a1, ⟨rest, a2⟩, a3, a4, a5, a6⟩ := pass1_spec l (i + 1) ⟨putV N s.t o.dst r.1, r.2⟩ recs' snaps' fin' (by rw [← List.drop_drop, hl]; rfl) hrest (fun j x hx => by
      have := hv (j + 1) x (by simpa using hx)
      rw [← this]; congr 1; omega) ht'
    have hps := posAt_succ (E := E) ho
    have hm := pos_mono (effAt E ops) (show i + 1 ≤ i + 1 + l.length from by omega)
    have e1 : i + (o :: l).length = i + 1 + l.length := by simp; omega
    rw [e1]
    cases he : effB E o.op with
    | true =>
      rw [he] at hps
      simp only [cond_true] at hps
      have hshift : ∀ k, posAt E ops (i + 1) ≤ k → (s.h :: snaps').getD (k - posAt E ops i) default = snaps'.getD (k - posAt E ops (i + 1)) default := by
        intro k hk
        rw [show k - posAt E ops i = (k - posAt E ops (i + 1)) + 1 from by omega]
        rfl
      refine ⟨by simp [a1], ⟨snaps', rfl⟩, ?_, a4, ?_, ?_⟩
      · show snaps'.length + 1 = _; unfold posAt at *; omega
      · rw [a5]; exact (hshift _ hm).symm
      · intro j o' hj
        cases j with
        | zero =>
          simp at hj; subst hj
          refine ⟨⟨r.1, by simp [ht]⟩, ?_⟩
          simp only [Nat.add_zero, Nat.sub_self, Nat.zero_add, cond_true]
          rw [he, ← ht, hv0]
          show dStep E call ops o ⟨s.t, s.h⟩ = some (r.1, snaps'.getD 0 default)
          rw [a2]; exact hr
        | succ j =>
          obtain ⟨⟨vv, b1⟩, b2⟩ := a6 j o' (by simpa using hj)
          rw [show i + (j + 1) = i + 1 + j from by omega]
          have hmj := pos_mono (effAt E ops) (show i + 1 ≤ i + 1 + j from by omega)
          refine ⟨⟨vv, by simpa using b1⟩, ?_⟩
          rw [cond_true, hshift _ hmj, show posAt E ops (i + 1 + j) - posAt E ops i + (bif effB E o'.op then 1 else 0) = (posAt E ops (i + 1 + j) + (bif effB E o'.op then 1 else 0)) - posAt E ops i from by unfold posAt at *; omega, hshift _ (by unfold posAt at *; omega),
            show posAt E ops (i + 1 + j) + (bif effB E o'.op then 1 else 0) - posAt E ops (i + 1) = posAt E ops (i + 1 + j) - posAt E ops (i + 1) + (bif effB E o'.op then 1 else 0) from by unfold posAt at *; omega]
          exact b2
    | false =>
      rw [he] at hps
      simp only [cond_false, Nat.add_zero] at hps
      have hh := dStep_heap he hr
      rw [← hps]
      refine ⟨by simp [a1], ⟨rest, by rw [cond_false, a2, hh]⟩, a3, a4, a5, ?_⟩
      intro j o' hj
      cases j with
      | zero =>
        simp at hj; subst hj
        refine ⟨⟨r.1, by simp [ht]⟩, ?_⟩
        simp only [Nat.add_zero, cond_false, hps, Nat.sub_self]
        rw [he, ← ht, hv0, a2]
        simp only [cond_false, Nat.add_zero]
        show dStep E call ops o ⟨s.t, r.2⟩ = some (r.1, r.2)
        rw [hh]
        refine hr.trans ?_
        rw [← hh]
      | succ j =>
        obtain ⟨⟨vv, b1⟩, b2⟩ := a6 j o' (by simpa using hj)
        rw [show i + (j + 1) = i + 1 + j from by omega]
        exact ⟨⟨vv, by simpa using b1⟩, b2⟩

theorem countB_eq (F p : Nat → Bool) : ∀ n, countB ((List.range n).filter F) p = cntL F p n
  | 0 => rfl
  | n + 1 => by
    have ih := countB_eq F p n
    unfold countB at *
    rw [List.range_succ, List.filter_append, List.filter_append, List.length_append, ih]
    simp only [cntL]
    cases hF : F n <;> cases hp : p n <;> simp [hF, hp]

theorem effIdx_eq : effIdx E ops.toList = (List.range ops.size).filter (effAt E ops) := by
  unfold effIdx
  simp only [Array.length_toList, Array.getElem?_toList]
  rfl

theorem pass2_spec {ms effs : List Nat} {m : Nat} {snaps : List Heap} : ∀ (l : List Oper) (recs : List (Tm × V)) (i : Nat), pass2 E call ops ms effs m snaps l recs i = true → ∀ j o, l[j]? = some o → effB E o.op = false →
    ∃ t vv, recs[j]? = some (t, vv) ∧ (stillB o.op = true ∨ steady E call ops o t vv snaps (countB effs fun k => (ms.getD (i + j) 0).testBit k) (m - countB effs fun k => (ms.getD k 0).testBit (i + j)) = true)
  | [], [], _, _, j, o, hj, _ => by simp at hj
  | [], _ :: _, _, h, _, _, _, _ => by simp [pass2] at h
  | _ :: _, [], _, h, _, _, _, _ => by simp [pass2] at h
  | u :: l, (t, vv) :: recs, i, h, j, o, hj, he => by
    simp only [pass2, Bool.and_eq_true] at h
    cases j with
    | zero =>
      simp at hj; subst hj
      rw [he, Bool.false_or, Bool.or_eq_true] at h
      exact ⟨t, vv, rfl, h.1⟩
    | succ j =>
      obtain ⟨t', v', h1, h2⟩ := pass2_spec l recs (i + 1) h.2 j o (by simpa using hj) he
      refine ⟨t', v', by simpa using h1, ?_⟩
      rw [show i + (j + 1) = i + 1 + j from by omega]
      exact h2

theorem steady_spec {o : Oper} {t : Tm} {u : V} {snaps : List Heap} {lo hi : Nat} (he : effB E o.op = false) (h : steady E call ops o t u snaps lo hi = true) (k : Nat) (h1 : lo ≤ k) (h2 : k ≤ hi) (h3 : k < snaps.length) :
    dStep E call ops o ⟨t, snaps.getD k default⟩ = some (u, snaps.getD k default) := by
  unfold steady at h
  rw [List.all_eq_true] at h
  have hm : snaps.getD k default ∈ (snaps.take (hi + 1)).drop lo := by
    rw [List.mem_iff_getElem?]
    refine ⟨k - lo, ?_⟩
    rw [List.getElem?_drop, List.getElem?_take, if_pos (by omega), show lo + (k - lo) = k from by omega]
    simp [List.getD, List.getElem?_eq_getElem h3]
  have := h _ hm
  split at this
  · rename_i r hr
    have e1 := V.same_eq _ _ this
    have e2 := dStep_heap he hr
    rw [hr, ← e1]
    congr 1
    exact Prod.ext rfl e2
  · cases this

theorem still_op {o : Op} (hs : stillB o = true) (t : Tm) : ∃ x : Option V, ∀ h, dOp E call o t h = keep h x := by
  cases o <;> first | (cases hs; done) | skip
  case move x => exact ⟨some (ev t x), fun _ => rfl⟩
  case assign x => exact ⟨some (ev t x), fun _ => rfl⟩
  case pick c a b =>
    refine ⟨match ev t c with | .bool true => some (ev t a) | .bool false => some (ev t b) | _ => none, fun h => ?_⟩
    simp only [dOp]
    cases ev t c <;> try rfl
    rename_i x; cases x <;> rfl
  case nilCheck x =>
    refine ⟨match ev t x with | .ptr (some a) => some (.ptr (some a)) | .fn f a b => some (.fn f a b) | _ => none, fun h => ?_⟩
    simp only [dOp]
    cases ev t x <;> try rfl
    rename_i x; cases x <;> rfl
  case unOp op xt x => exact ⟨_, fun _ => rfl⟩
  case extract x i => exact ⟨_, fun _ => rfl⟩
  case fieldAddr s x f => exact ⟨_, fun _ => rfl⟩
  case field s x f => exact ⟨_, fun _ => rfl⟩
  case indexAddr s x f => exact ⟨_, fun _ => rfl⟩
  case index s x f => exact ⟨_, fun _ => rfl⟩

theorem still_spec {o : Oper} {t : Tm} {u : V} {h : Heap} (hs : stillB o.op = true) (hd : dStep E call ops o ⟨t, h⟩ = some (u, h)) (h' : Heap) : dStep E call ops o ⟨t, h'⟩ = some (u, h') := by
  obtain ⟨x, hx⟩ := still_op (E := E) (call := call) hs t
  unfold dStep at *
  obtain ⟨w, hw, hd1⟩ := bind_some hd
  rw [hw]
  cases w with
  | false =>
    cases hd1
    rfl
  | true =>
    show dOp E call o.op t h' = _
    have hd2 : dOp E call o.op t h = some (u, h) := hd1
    rw [hx] at hd2 ⊢
    cases x with
    | none => cases hd2
    | some v => cases hd2; rfl

/-- A region that draws its order, as it is reckoned. -/
theorem draw_sound (hE : EnvOK E) (hc : CallOK E w0 call) (hok : okRegion E ops = true) {Q : Exit → Act → World → Prop} {ι : Emb} {s s' : St} {a : Act} {w : World} {id : Nat} (H : HR w0 ι s.h w) (T : TR ι N s.t a.tmps)
    (hd : dDraw E call N ops s = some s') (hQ : ∀ κ a' w', Emb.le ι κ → HR w0 κ s'.h w' → TR κ N s'.t a'.tmps → a'.defers = a.defers → Q .normal a' w') : (Code.region id ops true).wpIn (Fen ro) 0 E.P Q a w := by
  unfold dDraw at hd
  obtain ⟨⟨recs, snaps, fin⟩, hp, hd1⟩ := bind_some hd
  let v : Nat → V := fun i => ((recs[i]?).map (·.2)).getD .undef
  obtain ⟨a1, ⟨rest, a2⟩, a3, a4, a5, a6⟩ := pass1_spec (t0 := s.t) (v := v) ops.toList 0 s recs snaps fin rfl hp (fun j x hx => by simp [v, hx]) rfl
  have hp0 : posAt E ops 0 = 0 := rfl
  have hf := fine_of (E := E) hok
  simp only [Nat.zero_add, hp0, Nat.sub_zero, Array.length_toList] at a3 a4 a5 a6
  have get : ∀ (i : Nat) (o : Oper), ops[i]? = some o → ops.toList[i]? = some o := fun i o h => by rw [Array.getElem?_toList]; exact h
  have hfin : fin = s' ∧ (∀ i o, ops[i]? = some o → effB E o.op = false → ∀ k, cntL (effAt E ops) (fun j => bitOf ops i j) ops.size ≤ k → k + cntL (effAt E ops) (fun j => bitOf ops j i) ops.size ≤ cntL (effAt E ops) (fun _ => true) ops.size →
      dStep E call ops o ⟨tmL ops N s.t v (fun _ => true) i, snaps.getD k default⟩ = some (v i, snaps.getD k default)) := by
    dsimp only at hd1
    split at hd1
    · cases hd1
      refine ⟨rfl, fun i o ho he k _ hk => ?_⟩
      have hm : cntL (effAt E ops) (fun _ => true) ops.size = 0 := by
        simp only [List.length_singleton] at a3
        unfold posAt at a3
        omega
      have := (a6 i o (get i o ho)).2
      have hpi : posAt E ops i = 0 := by
        have := pos_mono (effAt E ops) (show i ≤ ops.size from Nat.le_of_lt (Array.getElem?_eq_some_iff.1 ho).1)
        unfold posAt; omega
      have hk0 : k = 0 := by omega
      rw [hpi, he] at this
      subst hk0
      exact this
    · obtain ⟨hp2, hd2⟩ := bif_some hd1
      cases hd2
      refine ⟨rfl, fun i o ho he k h1 h2 => ?_⟩
      obtain ⟨t, vv, h3, h4⟩ := pass2_spec ops.toList recs 0 hp2 i o (get i o ho) he
      obtain ⟨⟨vv', h5⟩, _⟩ := a6 i o (get i o ho)
      rw [h3] at h5
      cases h5
      have hv : v i = vv := by simp [v, h3]
      rw [hv]
      rcases h4 with hst | h4
      · have hq := (a6 i o (get i o ho)).2
        rw [he] at hq
        have := still_spec hst hq (snaps.getD k default)
        rw [hv] at this
        exact this
      rw [effIdx_eq] at h4
      rw [countB_eq, countB_eq] at h4
      have hlen : ((List.range ops.size).filter (effAt E ops)).length = cntL (effAt E ops) (fun _ => true) ops.size := by
        have := countB_eq (effAt E ops) (fun _ => true) ops.size
        unfold countB at this
        simpa using this
      rw [hlen] at h4
      simp only [Nat.zero_add] at h4
      refine steady_spec he h4 k h1 ?_ ?_
      · show k ≤ _ - cntL (effAt E ops) (fun j => bitOf ops j i) ops.size
        omega
      · rw [a3]; unfold posAt; omega
  obtain ⟨rfl, hq⟩ := hfin
  have hs : Steps E call ops (bitOf ops) N s.t v (fun k => snaps.getD k default) := by
    refine ⟨fun i o ho he => ?_, hq⟩
    have := (a6 i o (get i o ho)).2
    rw [he] at this
    exact this
  refine wpIn_region_any hE.mixed ?_
  have hz : ∀ j, (Array.replicate ops.size false).getD j false = false := by
    intro j
    rw [Array.getD_eq_getD_getElem?, Array.getElem?_replicate]
    split <;> rfl
  have hzf : (fun j => (Array.replicate ops.size false).getD j false) = fun _ => false := funext hz
  have hc0 : ∀ k, cntL (effAt E ops) (fun _ => false) k = 0 := by
    intro k
    induction k with
    | zero => rfl
    | succ k ih => simp [cntL, ih]
  have ht0 : ∀ k, tmL ops N s.t v (fun _ => false) k = s.t := by
    intro k
    induction k with
    | zero => rfl
    | succ k ih => simp only [tmL, cond_false]; exact ih
  have hun : unL (fun _ => false) ops.size = ops.size := by
    have : ∀ k, unL (fun _ => false) k = k := by
      intro k
      induction k with
      | zero => rfl
      | succ k ih => unfold unL at *; simp only [cntL]; rw [ih]; rfl
    exact this _
  refine draw_any hE hc hf hs a.defers ops.size (Array.replicate ops.size false) ι a w.drew (by simp) ?_ ?_ ?_ ?_ rfl ?_
  · intro j u _ hj
    rw [hz] at hj; cases hj
  · rw [hzf, hun]; exact Nat.le_refl _
  · rw [hzf, hc0]
    have : snaps.getD 0 default = s.h := by rw [a2]; rfl
    show HR w0 ι (snaps.getD 0 default) w.drew
    rw [this]
    exact H.drew
  · rw [hzf, ht0]; exact T
  · intro κ a' w' h1 h2 h3 h4
    refine hQ κ a' w' h1 ?_ ?_ h4
    · rw [a5]; exact h2
    · rw [a4]; exact h3

end
end Go.Zs
