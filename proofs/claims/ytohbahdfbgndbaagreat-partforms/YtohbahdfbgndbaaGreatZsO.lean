/- A sound evaluator for the model's programs, fifteenth part: an operation as a whole. -/
import Derived.Test.YtohbahdfbgndbaaGreatZsNi
namespace Go.Zs
open Go Go.RowKit

/-- The slots stand for the slots. -/
structure TR (ι : Emb) (n : Nat) (t : Tm) (tmps : Array Value) : Prop where
  size : tmps.size = n
  get : ∀ k, VR ι (t.get k) (tmps.getD k undef)

theorem VR.undef {ι : Emb} : VR ι .undef Go.undef := .tup .nil

theorem TR.mono {ι κ : Emb} (hl : Emb.le ι κ) {n : Nat} {t : Tm} {tmps : Array Value} (h : TR ι n t tmps) : TR κ n t tmps := ⟨h.size, fun k => (h.get k).mono hl⟩

theorem Tm.get_put (t : Tm) (d : Nat) (v : V) (k : Nat) : Tm.get (T.put t d (some v)) k = if k = d then v else t.get k := by
  unfold Tm.get
  rw [T.get_put]
  split <;> rfl

theorem TR.put {ι : Emb} {n : Nat} {t : Tm} {a : Act} (h : TR ι n t a.tmps) (dst : Option Tmp) {v : V} {v' : Value} (hv : VR ι v v') : TR ι n (putV n t dst v) (a.put dst v').tmps := by
  cases dst with
  | none => exact h
  | some d =>
    refine ⟨by simp [Act.put, h.size], fun k => ?_⟩
    unfold putV
    simp only
    by_cases hd : d < n
    · have e : Nat.blt d n = true := Nat.ble_eq_true_of_le hd
      rw [e, cond_true, Tm.get_put]
      by_cases hk : k = d
      · subst hk
        rw [if_pos rfl]
        have : k < a.tmps.size := by rw [h.size]; exact hd
        simp [Act.put, this, hv]
      · rw [if_neg hk]
        have := h.get k
        simpa [Act.put, Ne.symm hk] using this
    · have e : Nat.blt d n = false := by
        cases hb : Nat.blt d n
        · rfl
        · exact absurd (blt hb) hd
      rw [e, cond_false]
      have hs : ¬ d < a.tmps.size := by rw [h.size]; exact hd
      have := h.get k
      simpa [Act.put, Array.setIfInBounds, hs] using this

theorem ev_sound {ι : Emb} {n : Nat} {t : Tm} {a : Act} (h : TR ι n t a.tmps) (x : Operand) : VR ι (ev t x) (a.eval x) := by
  cases x with
  | tmp k => exact h.get k
  | const v => exact VR.ofValue v
  | global g => exact .any _
  | func f => exact .fn f .nil .nil

section
variable {w0 : Base} {ι : Emb} {h : Heap} {w : World} {E : Env} {n : Nat} {t : Tm} {a : Act} {ro : Option Nat}

theorem evs_sound (T : TR ι n t a.tmps) (xs : Array Operand) : VRs ι (xs.toList.map (ev t)) (xs.map a.eval).toList := by
  rw [Array.toList_map]
  exact VRs.map_of (fun x => ev_sound T x) _

theorem parts_sound (T : TR ι n t a.tmps) (ps : Array (Nat × Operand)) : PsR ι (ps.toList.map fun p => (p.1, ev t p.2)) (ps.map fun (i, x) => (i, a.eval x)).toList := by
  rw [Array.toList_map]
  generalize ps.toList = l
  induction l with
  | nil => exact .nil
  | cons p l ih => exact .cons (ev_sound T p.2) ih

theorem opt_sound (T : TR ι n t a.tmps) (x : Option Operand) : OptR ι (x.map (ev t)) (x.map a.eval) := by
  cases x with
  | none => exact .none
  | some x => exact .some (ev_sound T x)

/-- What a call of a function comes to. -/
def CallR (w0 : Base) (ι : Emb) (r : V × Heap) (e : Ending) (w' : World) : Prop := ∃ κ v', Emb.le ι κ ∧ HR w0 κ r.2 w' ∧ VR κ r.1 v' ∧ e = .returned v'

/-- The calls are sound. -/
structure CallOK (E : Env) (w0 : Base) (call : CallF) : Prop where
  fn : ∀ f args h r, call false f args h = some r → (∃ fn, E.P.funcs[f]? = some fn ∧ fn.body.isSome = true) ∧ ∀ ι w (args' : Array Value), HR w0 ι h w → VRs ι args args'.toList → Calls E.P f args' w (CallR w0 ι r)
  yld : ∀ i args h r, call true i args h = some r → ∀ ι w (args' : Array Value) p, HR w0 ι h w → VRs ι args args'.toList → ι i = some p →
    ∃ rec : Loop, w.heap[p.blk]? = some (.loop rec) ∧ args'.size = rec.params.size ∧
      RoundIn Fence.wide 0 E.P p.blk rec.fn ((rec.params.zip args').foldl (fun tmps (t, a) => tmps.setIfInBounds t a) rec.tmps) rec.assign rec.body w (CallR w0 ι r)

/-- A fence that lets all in, in a round or not. -/
def Fen (ro : Option Nat) : Fence := { fn := fun _ => True, depth := none, alive := false, round := ro }

theorem callsIn_Fen {m : Nat} {P : Program} {f : FuncId} {args : Array Value} {R : Ending → World → Prop} (h : Calls P f args w R) : CallsIn (Fen ro) m P f args w R := (callsIn_wide (n := m)).2 h

theorem roundIn_Fen {m : Nat} {P : Program} {l : Nat} {f : FuncId} {tmps : Array Value} {assign body : Code} {R : Ending → World → Prop} (h : RoundIn Fence.wide 0 P l f tmps assign body w R) : RoundIn (Fen ro) m P l f tmps assign body w R :=
  ⟨trivial, fun c cs _ => h.2 c cs (room_wide _)⟩

variable {o : Oper} {K : Act → World → Prop} {Q : Exit → Act → World → Prop} {r : V × Heap}

theorem wp_sem (hnd : ∀ c, o.op ≠ .defer c) {s : Sem Value} (hs : SemOK E.P w0 ι s w r) (he : (execOp a.eval o).run E.P w = (do pure (Next.value (← s)) : Sem Next).run E.P w)
    (hK : ∀ κ w' v', Emb.le ι κ → HR w0 κ r.2 w' → VR κ r.1 v' → K (a.put o.dst v') w') : o.wpIn (Fen ro) 0 E.P a w K Q := by
  obtain ⟨κ, v', w', hl, H', hv, hr⟩ := hs
  refine ⟨fun _ _ => trivial, ?_⟩
  show o.uponIn _ _ _ a K Q ((o.semAt ro a.eval).run E.P w)
  rw [Oper.semAt_eq ro _ o hnd, he]
  simp only [Sem.run_bind, hr, Result.andThen_ok, Sem.run_pure]
  exact hK κ w' v' hl H' hv

theorem wp_unit (hnd : ∀ c, o.op ≠ .defer c) {s : Sem Unit} {h' : Heap} {w' : World} (hs : s.run E.P w = .ok () w') (H' : HR w0 ι h' w') (he : (execOp a.eval o).run E.P w = (do s; pure Next.skip : Sem Next).run E.P w)
    (hK : ∀ κ w' v', Emb.le ι κ → HR w0 κ h' w' → VR κ V.undef v' → K (a.put o.dst v') w') : o.wpIn (Fen ro) 0 E.P a w K Q := by
  refine ⟨fun _ _ => trivial, ?_⟩
  show o.uponIn _ _ _ a K Q ((o.semAt ro a.eval).run E.P w)
  rw [Oper.semAt_eq ro _ o hnd, he]
  simp only [Sem.run_bind, hs, Result.andThen_ok, Sem.run_pure]
  exact hK ι w' undef (Emb.le_refl ι) H' VR.undef

theorem store_one (H : HR w0 ι h w) {P : Program} {i o : Nat} {v : V} {v' : Value} {h' : Heap} {p : Pl} (hp : ι i = some p) (hd : dStoreCells i o [v] h = some h') (hv : VR ι v v') (m : Mode) :
    ∃ w', (store ⟨p.blk, p.base + o, none⟩ v' m).run P w = .ok () w' ∧ HR w0 ι h' w' := by
  have h1 : v.one = true := by
    unfold dStoreCells at hd
    split at hd
    · obtain ⟨hb, _⟩ := bif_some hd
      simp only [Bool.and_eq_true, List.all_cons] at hb
      exact hb.2.1
    · cases hd
  obtain ⟨w', hr, H'⟩ := storeCells_sound (P := P) H hp hd (.cons hv .nil)
  refine ⟨w', ?_, H'⟩
  simp only [storeCells, Sem.run_bind, add_none, Nat.add_zero] at hr
  have ho := hv.one h1
  rw [run_store P w _ v' _ ho] at hr ⊢
  cases hc : w.cell? ⟨p.blk, p.base + o, none⟩ with
  | none =>
    exfalso
    unfold dStoreCells at hd
    split at hd
    · rename_i cs k hg
      obtain ⟨hb, _⟩ := bif_some hd
      simp only [Bool.and_eq_true] at hb
      have hle := ble hb.1.2
      simp only [List.length_cons, List.length_nil] at hle
      obtain ⟨u, hu⟩ : ∃ u, cs[o]? = some u := ⟨cs[o]'(by omega), List.getElem?_eq_getElem _⟩
      obtain ⟨u', hu', _⟩ := H.cell hg hp hu
      rw [hc] at hu'; cases hu'
    · cases hd
  | some u =>
    simp only [hc] at hr ⊢
    split
    · rename_i hf; rw [if_pos hf] at hr; simp at hr
    · rename_i hf; rw [if_neg hf] at hr; simpa using hr

theorem ext_sound (H : HR w0 ι h w) {e : Ext} {args : List V} {args' : Array Value} (hargs : VRs ι args args'.toList) (hd : dExt e args h = some r) : SemOK E.P w0 ι (e.run args') w r := by
  unfold dExt at hd
  generalize hl : args'.toList = l at hargs
  have hl' : args' = l.toArray := by rw [← hl]
  subst hl'
  split at hd
  · rename_i i o
    obtain ⟨cs, hc, hd1⟩ := bind_some hd
    obtain ⟨k, hg⟩ := cells_some hc
    split at hd1
    · rename_i nn hcell
      cases hd1
      cases hargs with
      | cons h1 t =>
      cases t
      cases h1 with
      | @ptr _ _ p hp =>
      obtain ⟨v', e1, e2⟩ := H.cell hg hp hcell
      cases e2
      refine .same H (.int ..) ?_
      show ((do Extern.Atomic.read (.int .i64) (← asAddr (.pointer (some ⟨p.blk, p.base + o, none⟩))) : Sem Value)).run E.P w = _
      simp [Extern.Atomic.read, asAddr, e1]
    · cases hd1
  · rename_i i o d
    obtain ⟨cs, hc, hd1⟩ := bind_some hd
    obtain ⟨k, hg⟩ := cells_some hc
    split at hd1
    · rename_i nn hcell
      obtain ⟨h2, hst, rfl⟩ := map_some hd1
      cases hargs with
      | cons h1 t =>
      cases t with
      | cons h3 t =>
      cases t
      cases h3
      cases h1 with
      | @ptr _ _ p hp =>
      obtain ⟨v', e1, e2⟩ := H.cell hg hp hcell
      cases e2
      obtain ⟨w', hr, H'⟩ := store_one (P := E.P) H hp hst (.int ..) .atomic
      refine ⟨ι, _, w', Emb.le_refl ι, H', .int .., ?_⟩
      show ((do
        let a ← asAddr (.pointer (some ⟨p.blk, p.base + o, none⟩))
        let old ← Extern.Atomic.read (.int .i64) a
        let new ← Op.intArith .add .i64 (← asInt old) (← asInt (.int .i64 d))
        store a new .atomic
        pure (if true then new else old) : Sem Value)).run E.P w = _
      simp [Extern.Atomic.read, asAddr, e1, asInt, asIntOf, Op.intArith, hr]
    · cases hd1
  · rename_i i o nn
    obtain ⟨h2, hst, rfl⟩ := map_some hd
    cases hargs with
    | cons h1 t =>
    cases t with
    | cons h3 t =>
    cases t
    cases h3
    cases h1 with
    | @ptr _ _ p hp =>
    obtain ⟨w', hr, H'⟩ := store_one (P := E.P) H hp hst (.int ..) .atomic
    refine ⟨ι, _, w', Emb.le_refl ι, H', .tup .nil, ?_⟩
    show ((do
      store (← asAddr (.pointer (some ⟨p.blk, p.base + o, none⟩))) (.int .i64 nn) .atomic
      pure Extern.Atomic.none_ : Sem Value)).run E.P w = _
    simp [Extern.Atomic.none_, asAddr, hr]
  · cases hd

theorem call_sound (hE : EnvOK E) {call : CallF} (hc : CallOK E w0 call) (H : HR w0 ι h w) (T : TR ι n t a.tmps) {c : Call} (ho : o.op = .call c) (hd : dCall E call t c h = some r)
    (hK : ∀ κ w' v', Emb.le ι κ → HR w0 κ r.2 w' → VR κ r.1 v' → K (a.put o.dst v') w') : o.wpIn (Fen ro) 0 E.P a w K Q := by
  unfold dCall at hd
  have hnd : ∀ c, o.op ≠ .defer c := fun c h => by rw [ho] at h; cases h
  have hargs := evs_sound T c.args
  split at hd
  · rename_i b hb
    have hres : (execOp a.eval o).run E.P w = (builtin b c.argTypes o.type (c.args.map fun | .const _ => true | _ => false) (c.args.map a.eval)).run E.P w := by
      unfold execOp
      simp only [ho, resolve, hb, Sem.run_bind, Sem.run_pure, Result.andThen_ok, invoke]
      rfl
    generalize hl : (c.args.map a.eval).toList = l at hargs
    have hl' : c.args.map a.eval = l.toArray := by rw [← hl]
    rw [hl'] at hres
    generalize c.args.toList.map (ev t) = xs at hargs hd
    unfold dBuiltin at hd
    split at hd
    · rename_i x
      obtain ⟨t0, ht0, hd1⟩ := bind_some hd
      obtain ⟨v, hv, rfl⟩ := map_some hd1
      cases hargs with
      | cons h1 tl =>
      cases tl
      exact wp_sem hnd (Quiet.ok H (len_sound (ty := o.type) H ht0 h1 hv)) hres hK
    · rename_i s x
      cases hargs with
      | cons h1 tl =>
      cases tl with
      | cons h2 tl =>
      cases tl
      exact wp_sem hnd (append_sound H h1 h2 hd) hres hK
    · rename_i d s
      cases hargs with
      | cons h1 tl =>
      cases tl with
      | cons h2 tl =>
      cases tl
      exact wp_sem hnd (copy_sound H h1 h2 hd) hres hK
    · rename_i x
      cases hargs with
      | cons h1 tl =>
      cases tl
      exact wp_sem hnd (clear_sound H h1 hd) hres hK
    · rename_i m k
      cases hargs with
      | cons h1 tl =>
      cases tl with
      | cons h2 tl =>
      cases tl
      exact wp_sem hnd (delete_sound hE H h1 h2 hd) hres hK
    · obtain ⟨v, hv, rfl⟩ := map_some hd
      have := minmax_sound (E := E) (w := w) (mx := false) (ts := c.argTypes) (ty := o.type) (xs' := l.toArray) (by simpa using hargs) hv
      exact wp_sem hnd (Quiet.ok H this) hres hK
    · obtain ⟨v, hv, rfl⟩ := map_some hd
      have := minmax_sound (E := E) (w := w) (mx := true) (ts := c.argTypes) (ty := o.type) (xs' := l.toArray) (by simpa using hargs) hv
      exact wp_sem hnd (Quiet.ok H this) hres hK
    · cases hd
  · rename_i f hf
    have hev := ev_sound T f
    split at hd
    · rename_i g first captured heq
      rw [heq] at hev
      generalize hvf : a.eval f = vf at hev
      cases hev with
      | @fn _ _ _ first' captured' hf1 hf2 =>
      have hall : VRs ι (first ++ c.args.toList.map (ev t) ++ captured) ((first' ++ c.args.map a.eval) ++ captured').toList := by
        rw [Array.toList_append, Array.toList_append]
        exact (hf1.append hargs).append hf2
      have hres : (execOp a.eval o).run E.P w = (callFunc g ((first' ++ c.args.map a.eval) ++ captured')).run E.P w := by
        unfold execOp
        simp only [ho, resolve, hf, hvf, Deferred.ofValue, Sem.run_bind, Sem.run_pure, Result.andThen_ok, invoke]
      split at hd
      · rename_i e he
        obtain ⟨fn, hfn, hb, hnm, hnx, hfd⟩ := hE.ext _ _ he
        refine wp_sem hnd (ext_sound H hall hd) (hres.trans ?_) hK
        unfold callFunc
        simp only [Sem.run_bind, run_program, Result.andThen_ok, hfn, hnm, Bool.false_eq_true, if_false, hb, Option.isNone_none, if_true, run_mark]
        have hnx' : Extern.findNext fn = none := by simpa using hnx
        simp only [hnx', hfd, Sem.run_bind]
      · obtain ⟨⟨fn, hfn, hb⟩, hcall⟩ := hc.fn _ _ _ _ hd
        refine ⟨fun _ _ => trivial, ?_⟩
        show o.uponIn _ _ _ a K Q ((o.semAt ro a.eval).run E.P w)
        rw [Oper.semAt_eq ro _ o hnd, hres]
        have hrun : (callFunc g ((first' ++ c.args.map a.eval) ++ captured')).run E.P w = .ok (.enter g ((first' ++ c.args.map a.eval) ++ captured')) w := by
          unfold callFunc
          have hnb : fn.body.isNone = false := by cases hq : fn.body with
            | none => rw [hq] at hb; cases hb
            | some c => rfl
          simp only [Sem.run_bind, run_program, Result.andThen_ok, hfn, hE.name _ _ hfn hb, Bool.false_eq_true, if_false, hnb, Sem.run_pure]
        rw [hrun, Oper.uponIn_enter]
        refine ⟨fun h => (by cases h), callsIn_Fen ((hcall ι w _ H hall).mono fun e w' hR => ?_)⟩
        obtain ⟨κ, v', h1, h2, h3, rfl⟩ := hR
        exact hK κ w' v' h1 h2 h3
    · rename_i i heq
      rw [heq] at hev
      generalize hvf : a.eval f = vf at hev
      cases hev with
      | @yld _ p hp =>
      obtain ⟨rec, hrec, hsz, hround⟩ := hc.yld _ _ _ _ hd ι w (c.args.map a.eval) p H hargs hp
      refine ⟨fun _ _ => trivial, ?_⟩
      show o.uponIn _ _ _ a K Q ((o.semAt ro a.eval).run E.P w)
      have hres : (execOp a.eval o).run E.P w = (Instr.yield p.blk (c.args.map a.eval)).run E.P w := by
        unfold execOp
        simp only [ho, resolve, hf, hvf, Deferred.ofValue, Sem.run_bind, Sem.run_pure, Result.andThen_ok, invoke, Array.empty_append]
      rw [Oper.semAt_eq ro _ o hnd, hres, run_yield hrec hsz, Oper.uponIn_round]
      refine ⟨fun h => (by cases h), roundIn_Fen (hround.mono fun e w' hR => ?_)⟩
      obtain ⟨κ, v', h1, h2, h3, rfl⟩ := hR
      exact hK κ w' v' h1 h2 h3
    · cases hd
  · cases hd

end
end Go.Zs
