/- A sound evaluator for the model's programs, twenty-fourth part: regions, code and calls, prepared. -/
import Derived.Test.YtohbahdfbgndbaaGreatZsW
namespace Go.Zs
open Go

def V.want (v : V) (want : Bool) {R : Type} (d a b : R) : R := match v with | .bool x => bif x == want then a else b | .tup _ => b | _ => d

section
variable (E : Env) (call : CallF)

noncomputable def cStep (ops : Array Oper) (o : Oper) : CO :=
  match o.guard with
  | none => cOp E call o.op
  | some (j, want) =>
    match (ops[j]?).bind (·.dst) with
    | none => .pu fun _ _ => none
    | some d => match cGet (path (d + 1) d) with
      | ⟨g⟩ => match cOp E call o.op with
        | .pu f => .pu fun t h => (g t).want want none (f t h) (some .undef)
        | .ef f => .ef fun t h => (g t).want want none (f t h) (some (.undef, h))

theorem cStep_eq (ops : Array Oper) (o : Oper) (t : Tm) (h : Heap) : (cStep E call ops o).app t h = dStep E call ops o ⟨t, h⟩ := by
  unfold cStep dStep wantedV
  cases hg : o.guard with
  | none => simp only [cOp_eq]; rfl
  | some jw =>
    obtain ⟨j, want⟩ := jw
    cases hd : (ops[j]?).bind (·.dst) with
    | none => simp only [hd]; rfl
    | some d =>
      simp only [hd, Option.bind_some]
      have hop := cOp_eq E call o.op t h
      have hget := cGet_eq (d + 1) d t (Nat.lt_succ_self d)
      generalize hb : cGet (path (d + 1) d) = b at hget
      obtain ⟨g⟩ := b
      simp only at hget
      rw [← hget]
      cases hc : cOp E call o.op with
      | pu f =>
        rw [hc] at hop
        show keep h ((g t).want want none (f t h) (some .undef)) = _
        cases g t <;> try rfl
        rename_i x
        show keep h (bif x == want then f t h else some .undef) = (bif x == want then dOp E call o.op t h else some (.undef, h))
        rw [← hop]
        cases x == want <;> rfl
      | ef f =>
        rw [hc] at hop
        show (g t).want want none (f t h) (some (.undef, h)) = _
        cases g t <;> try rfl
        rename_i x
        show (bif x == want then f t h else some (.undef, h)) = (bif x == want then dOp E call o.op t h else some (.undef, h))
        rw [← hop]
        rfl

noncomputable def cOps (n : Nat) (ops : Array Oper) : List Oper → Bx (Tm → Heap → Option St)
  | [] => ⟨fun t h => some ⟨t, h⟩⟩
  | o :: rest => match cPutV n o.dst with
    | ⟨p⟩ => match cOps n ops rest with
      | ⟨g⟩ => match cStep E call ops o with
        | .pu f => ⟨fun t h => @Option.rec V (fun _ => Option St) none (fun v => g (p t v) h) (f t h)⟩
        | .ef f => ⟨fun t h => @Option.rec (V × Heap) (fun _ => Option St) none (fun r => g (p t r.1) r.2) (f t h)⟩

theorem cOps_eq (n : Nat) (ops : Array Oper) : ∀ (l : List Oper) (t : Tm) (h : Heap), (cOps E call n ops l).val t h = dOps E call n ops l ⟨t, h⟩
  | [], _, _ => rfl
  | o :: rest, t, h => by
    have ih := cOps_eq n ops rest
    have hs := cStep_eq E call ops o t h
    have hp := cPutV_eq n o.dst t
    simp only [dOps, ← hs, ← hp, ← ih]
    cases hc : cStep E call ops o with
    | pu f =>
      simp only [cOps, hc, CO.app]
      cases f t h <;> rfl
    | ef f =>
      simp only [cOps, hc, CO.app]
      cases f t h <;> rfl

noncomputable def cPass1 (n : Nat) (ops : Array Oper) : List Oper → Bx (Tm → Heap → Option (List (Tm × V) × List Heap × St))
  | [] => ⟨fun t h => some ([], [h], ⟨t, h⟩)⟩
  | o :: rest => match cPutV n o.dst with
    | ⟨p⟩ => match cPass1 n ops rest with
      | ⟨g⟩ => match cStep E call ops o with
        | .pu f => match effB E o.op with
          | true => ⟨fun t h => @Option.rec V (fun _ => Option (List (Tm × V) × List Heap × St)) none (fun v => (g (p t v) h).map fun x => ((t, v) :: x.1, h :: x.2.1, x.2.2)) (f t h)⟩
          | false => ⟨fun t h => @Option.rec V (fun _ => Option (List (Tm × V) × List Heap × St)) none (fun v => (g (p t v) h).map fun x => ((t, v) :: x.1, x.2.1, x.2.2)) (f t h)⟩
        | .ef f => match effB E o.op with
          | true => ⟨fun t h => @Option.rec (V × Heap) (fun _ => Option (List (Tm × V) × List Heap × St)) none (fun r => (g (p t r.1) r.2).map fun x => ((t, r.1) :: x.1, h :: x.2.1, x.2.2)) (f t h)⟩
          | false => ⟨fun t h => @Option.rec (V × Heap) (fun _ => Option (List (Tm × V) × List Heap × St)) none (fun r => (g (p t r.1) r.2).map fun x => ((t, r.1) :: x.1, x.2.1, x.2.2)) (f t h)⟩

theorem cPass1_eq (n : Nat) (ops : Array Oper) : ∀ (l : List Oper) (t : Tm) (h : Heap), (cPass1 E call n ops l).val t h = pass1 E call n ops l ⟨t, h⟩
  | [], _, _ => rfl
  | o :: rest, t, h => by
    have ih := cPass1_eq n ops rest
    have hs := cStep_eq E call ops o t h
    have hp := cPutV_eq n o.dst t
    simp only [pass1, ← hs, ← hp, ← ih]
    cases hc : cStep E call ops o with
    | pu f =>
      cases he : effB E o.op with
      | true => simp only [cPass1, hc, he, CO.app]; cases f t h <;> rfl
      | false => simp only [cPass1, hc, he, CO.app]; cases f t h <;> rfl
    | ef f =>
      cases he : effB E o.op with
      | true => simp only [cPass1, hc, he, CO.app]; cases f t h <;> rfl
      | false => simp only [cPass1, hc, he, CO.app]; cases f t h <;> rfl

noncomputable def cPass2 (ops : Array Oper) (ms : List Nat) (effs : List Nat) (m : Nat) : List Oper → Nat → Bx (List Heap → List (Tm × V) → Bool)
  | [], _ => ⟨fun _ rs => match rs with | [] => true | _ => false⟩
  | o :: os, i => match cPass2 ops ms effs m os (i + 1) with
    | ⟨g⟩ => match effB E o.op || stillB o.op with
      | true => ⟨fun sn rs => match rs with | [] => false | _ :: rs => g sn rs⟩
      | false => match cStep E call ops o with
        | c => ⟨fun sn rs => match rs with | [] => false | (t, v) :: rs => (((sn.take ((m - countB effs fun j => (ms.getD j 0).testBit i) + 1)).drop (countB effs fun j => (ms.getD i 0).testBit j)).all fun h => match c.app t h with | some r => V.same r.1 v | none => false) && g sn rs⟩

theorem cPass2_eq (ops : Array Oper) (ms : List Nat) (effs : List Nat) (m : Nat) : ∀ (l : List Oper) (i : Nat) (sn : List Heap) (rs : List (Tm × V)), (cPass2 E call ops ms effs m l i).val sn rs = pass2 E call ops ms effs m sn l rs i
  | [], _, _, [] => rfl
  | [], _, _, _ :: _ => rfl
  | o :: os, i, sn, [] => by
    simp only [cPass2, pass2]
    cases effB E o.op || stillB o.op <;> rfl
  | o :: os, i, sn, (t, v) :: rs => by
    have ih := cPass2_eq ops ms effs m os (i + 1) sn rs
    simp only [cPass2, pass2]
    cases effB E o.op || stillB o.op with
    | true => simp only [Bool.true_or, Bool.true_and, ih]
    | false =>
      simp only [Bool.false_or, ih]
      congr 1
      unfold steady
      simp only [cStep_eq]
      rfl

/-- No operation of a row turns the memory. -/
def calm : List Oper → Bool
  | [] => true
  | o :: os => !effB E o.op && calm os

theorem pass1_calm (n : Nat) (ops : Array Oper) : ∀ (l : List Oper) (s : St), calm E l = true → (pass1 E call n ops l s).bind (fun x => match x.2.1 with | [_] => some x.2.2 | _ => none) = dOps E call n ops l s ∧ (∀ x, pass1 E call n ops l s = some x → ∃ h, x.2.1 = [h])
  | [], s, _ => ⟨rfl, fun x hx => by cases hx; exact ⟨_, rfl⟩⟩
  | o :: rest, s, hc => by
    simp only [calm, Bool.and_eq_true] at hc
    have he : effB E o.op = false := by cases h : effB E o.op <;> simp [h] at hc ⊢
    simp only [pass1, dOps]
    cases dStep E call ops o s with
    | none => exact ⟨rfl, fun x hx => by cases hx⟩
    | some r =>
      obtain ⟨i1, i2⟩ := pass1_calm n ops rest ⟨putV n s.t o.dst r.1, r.2⟩ hc.2
      simp only [Option.bind_some]
      rw [← i1]
      cases hp : pass1 E call n ops rest ⟨putV n s.t o.dst r.1, r.2⟩ with
      | none => exact ⟨rfl, fun x hx => by cases hx⟩
      | some x =>
        obtain ⟨h0, hx⟩ := i2 x hp
        refine ⟨?_, fun y hy => ?_⟩
        · simp [he, hx]
        · cases hy
          exact ⟨h0, by simp [he, hx]⟩

theorem dDraw_calm (n : Nat) (ops : Array Oper) (s : St) (hc : calm E ops.toList = true) : dDraw E call n ops s = dOps E call n ops ops.toList s := by
  obtain ⟨i1, i2⟩ := pass1_calm E call n ops ops.toList s hc
  unfold dDraw
  rw [← i1]
  cases hp : pass1 E call n ops ops.toList s with
  | none => rfl
  | some x =>
    obtain ⟨h0, hx⟩ := i2 x hp
    simp only [Option.bind_some, hx]

noncomputable def cDraw (n : Nat) (ops : Array Oper) : Bx (Tm → Heap → Option St) :=
  match calm E ops.toList with
  | true => cOps E call n ops ops.toList
  | false => match cPass1 E call n ops ops.toList with
    | ⟨f⟩ => match cPass2 E call ops (masks ops.toList []) (effIdx E ops.toList) (effIdx E ops.toList).length ops.toList 0 with
      | ⟨g⟩ => ⟨fun t h => (f t h).bind fun x => match x.2.1 with
        | [_] => some x.2.2
        | snaps => bif g snaps x.1 then some x.2.2 else none⟩

theorem cDraw_eq (n : Nat) (ops : Array Oper) (t : Tm) (h : Heap) : (cDraw E call n ops).val t h = dDraw E call n ops ⟨t, h⟩ := by
  unfold cDraw
  cases hc : calm E ops.toList with
  | true => rw [dDraw_calm E call n ops ⟨t, h⟩ hc]; exact cOps_eq E call n ops _ t h
  | false =>
    have h1 := cPass1_eq E call n ops ops.toList t h
    have h2 := cPass2_eq E call ops (masks ops.toList []) (effIdx E ops.toList) (effIdx E ops.toList).length ops.toList 0
    unfold dDraw
    rw [← h1]
    simp only [← h2]
    rfl

noncomputable def cAny (n : Nat) (ops : Array Oper) : Bx (Tm → Heap → Option St) :=
  match lateOf E ops with
  | none => cDraw E call n ops
  | some f => ⟨fun t h => dLate E call n ops f ⟨t, h⟩⟩

theorem cAny_eq (n : Nat) (ops : Array Oper) (t : Tm) (h : Heap) : (cAny E call n ops).val t h = dAny E call n ops ⟨t, h⟩ := by
  unfold cAny dAny
  cases lateOf E ops with
  | none => exact cDraw_eq E call n ops t h
  | some f => rfl

def Out.next {R : Type} (o : Out) (a b : R) : R := match o with | .normal => a | _ => b

def iterF (f : Tm → Heap → Option (Out × St)) : Nat → Tm → Heap → Option (Out × St)
  | 0, _, _ => none
  | k + 1, t, h => (f t h).bind fun r => r.1.next (iterF f k r.2.t r.2.h) (some r)

noncomputable def cCode (n lf : Nat) : Code → Bx (Tm → Heap → Option (Out × St))
  | .skip => ⟨fun t h => some (.normal, ⟨t, h⟩)⟩
  | .label _ => ⟨fun t h => some (.normal, ⟨t, h⟩)⟩
  | .region _ ops false => match cOps E call n ops ops.toList with | ⟨f⟩ => ⟨fun t h => (f t h).map fun s => (.normal, s)⟩
  | .region _ ops true => match cAny E call n ops with | ⟨f⟩ => ⟨fun t h => (f t h).map fun s => (.normal, s)⟩
  | .seq a b => match cCode n lf a with | ⟨f⟩ => match cCode n lf b with | ⟨g⟩ => ⟨fun t h => (f t h).bind fun r => r.1.next (g r.2.t r.2.h) (some r)⟩
  | .cond c a b => match cEv c with | ⟨fc⟩ => match cCode n lf a with | ⟨f⟩ => match cCode n lf b with | ⟨g⟩ => ⟨fun t h => (fc t).asBool none (f t h) (g t h)⟩
  | .block id b => match cCode n lf b with | ⟨f⟩ => ⟨fun t h => (f t h).map fun r => match r.1 with | .exit j => bif Nat.beq j id then (.normal, r.2) else r | _ => r⟩
  | .loop b => match b with
    | .seq (.region i ops false) rest => match headOf ops with
      | some _ => ⟨fun t h => dCode E call n lf (.loop (.seq (.region i ops false) rest)) ⟨t, h⟩⟩
      | none => match cCode n lf b with | ⟨f⟩ => ⟨fun t h => iterF f lf t h⟩
    | _ => match cCode n lf b with | ⟨f⟩ => ⟨fun t h => iterF f lf t h⟩
  | .exit id => ⟨fun t h => some (.exit id, ⟨t, h⟩)⟩
  | .ret => ⟨fun t h => some (.ret, ⟨t, h⟩)⟩
  | .rangeFunc g ps assign body => ⟨fun t h => dCode E call n lf (.rangeFunc g ps assign body) ⟨t, h⟩⟩
  | _ => ⟨fun _ _ => none⟩

theorem iterF_eq {f : Tm → Heap → Option (Out × St)} {g : St → Option (Out × St)} (hfg : ∀ t h, f t h = g ⟨t, h⟩) : ∀ (k : Nat) (t : Tm) (h : Heap), iterF f k t h = iter g k ⟨t, h⟩
  | 0, _, _ => rfl
  | k + 1, t, h => by
    simp only [iterF, iter, hfg]
    cases g ⟨t, h⟩ with
    | none => rfl
    | some r =>
      simp only [Option.bind_some, iterF_eq hfg k]
      cases r.1 <;> rfl

theorem cCode_eq (n lf : Nat) : ∀ (c : Code) (t : Tm) (h : Heap), (cCode E call n lf c).val t h = dCode E call n lf c ⟨t, h⟩
  | .skip, _, _ => rfl
  | .label _, _, _ => rfl
  | .region _ ops false, t, h => by
    simp only [dCode, ← cOps_eq]; rfl
  | .region _ ops true, t, h => by
    simp only [dCode, ← cAny_eq]; rfl
  | .seq a b, t, h => by
    simp only [dCode, ← cCode_eq n lf a]
    show ((cCode E call n lf a).val t h).bind (fun r => r.1.next ((cCode E call n lf b).val r.2.t r.2.h) (some r)) = _
    cases (cCode E call n lf a).val t h with
    | none => rfl
    | some r =>
      simp only [Option.bind_some, cCode_eq n lf b]
      cases r.1 <;> rfl
  | .cond c a b, t, h => by
    simp only [dCode, ← cCode_eq n lf a, ← cCode_eq n lf b, ← cEv_eq]
    show ((cEv c).val t).asBool none ((cCode E call n lf a).val t h) ((cCode E call n lf b).val t h) = _
    cases (cEv c).val t <;> try rfl
    rename_i x; cases x <;> rfl
  | .block id b, t, h => by
    simp only [dCode, ← cCode_eq n lf b]; rfl
  | .loop b, t, h => by
    have hb := fun t h => cCode_eq n lf b t h
    have key := iterF_eq hb lf t h
    unfold cCode
    split
    · rename_i i ops rest
      cases hh : headOf ops with
      | some y => rfl
      | none =>
        refine Eq.trans key ?_
        conv => rhs; unfold dCode
        simp only [hh]
        rfl
    · rename_i hno
      refine Eq.trans key ?_
      conv => rhs; unfold dCode
      split
      · exact absurd rfl (hno _ _ _)
      · rfl
  | .scope _, _, _ => rfl
  | .exit id, _, _ => rfl
  | .ret, _, _ => rfl
  | .rangeFunc .., _, _ => rfl
  | .goto _, _, _ => rfl
  | .refuse _, _, _ => rfl

end

noncomputable def cFun (E : Env) (lf : Nat) (call : CallF) (f : FuncId) : Bx (List V → Heap → Option (V × Heap)) :=
  match E.sum f with
  | some g => ⟨g⟩
  | none => match E.P.funcs[f]? with
    | none => ⟨fun _ _ => none⟩
    | some fn => match fn.body with
      | none => ⟨fun _ _ => none⟩
      | some c => match E.fine.testBit f with
        | false => ⟨fun _ _ => none⟩
        | true => match cCode E call fn.ntmps lf c with
          | ⟨g⟩ => ⟨fun args h => bif Nat.ble args.length fn.ntmps then (g (argTm args 0 .leaf) h).bind fun r => match r.1 with | .exit _ => none | _ => (dResults E fn r.2).map fun v => (v, r.2.h) else none⟩

theorem cFun_eq (E : Env) (lf k : Nat) (f : FuncId) (args : List V) (h : Heap) : (cFun E lf (run E lf k) f).val args h = run E lf (k + 1) false f args h := by
  simp only [run, cFun]
  cases E.sum f with
  | some g => rfl
  | none =>
    cases E.P.funcs[f]? with
    | none => rfl
    | some fn =>
      simp only [Option.bind_some]
      cases fn.body with
      | none => rfl
      | some c =>
        simp only [Option.bind_some, ← cCode_eq]
        cases E.fine.testBit f with
        | false => rfl
        | true => rfl

/-- A round. -/
noncomputable def cRound (E : Env) (lf : Nat) (call : CallF) (i : Nat) (args : List V) (h : Heap) : Option (V × Heap) :=
  match h.get i with
  | some (.loop .ready _ n t ps assign body) =>
    bif Nat.beq args.length ps.length then
    ((cCode E call n lf assign).val (putArgs n ps args t) h).bind fun r1 => match r1.1 with
      | .normal => match r1.2.h.get i with
        | some (.loop .ready p2 n2 t2 ps2 as2 bd2) => ((cCode E call n lf body).val r1.2.t (r1.2.h.set i (.loop .busy p2 n2 t2 ps2 as2 bd2))).bind fun r2 =>
          match r2.2.h.get i with
          | some (.loop _ _ n3 t3 ps3 as3 bd3) => some (.bool r2.1.isNormal, r2.2.h.set i (.loop (bif r2.1.isNormal then .ready else .done) r2.1 n3 t3 ps3 as3 bd3))
          | _ => none
        | _ => none
      | _ => none
    else none
  | _ => none

theorem cRound_eq (E : Env) (lf k i : Nat) (args : List V) (h : Heap) : cRound E lf (run E lf k) i args h = run E lf (k + 1) true i args h := by
  unfold cRound
  simp only [run, cCode_eq]
  rfl

/-- A call, prepared. -/
noncomputable def runC (E : Env) (lf : Nat) : Nat → CallF
  | 0, _, _, _, _ => none
  | k + 1, false, f, args, h => (cFun E lf (runC E lf k) f).val args h
  | k + 1, true, i, args, h => cRound E lf (runC E lf k) i args h

theorem runC_eq (E : Env) (lf : Nat) : ∀ k, runC E lf k = run E lf k
  | 0 => by funext b f args h; cases b <;> rfl
  | k + 1 => by
    funext b f args h
    cases b with
    | false =>
      rw [← cFun_eq]
      show (cFun E lf (runC E lf k) f).val args h = _
      rw [runC_eq E lf k]
    | true =>
      rw [← cRound_eq]
      show cRound E lf (runC E lf k) f args h = _
      rw [runC_eq E lf k]

end Go.Zs
