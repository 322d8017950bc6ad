/- A sound evaluator for the model's programs, twenty-third part: operations and code, prepared. -/
import Derived.Test.YtohbahdfbgndbaaGreatZsV
namespace Go.Zs
open Go

inductive CO where
  | pu (f : Tm → Heap → Option V)
  | ef (f : Tm → Heap → Option (V × Heap))

def CO.app : CO → Tm → Heap → Option (V × Heap)
  | .pu f, t, h => keep h (f t h)
  | .ef f, t, h => f t h

def nthF {α : Type} : List α → Nat → Option α
  | [], _ => none
  | a :: _, 0 => some a
  | _ :: l, n + 1 => nthF l n

theorem nthF_eq {α : Type} : ∀ (l : List α) (n : Nat), nthF l n = l[n]?
  | [], _ => by simp [nthF]
  | _ :: _, 0 => rfl
  | _ :: l, n + 1 => by simpa [nthF] using nthF_eq l n

def V.asInt {R : Type} (v : V) (d : R) (f : IntKind → Int → R) : R := match v with | .int k n => f k n | _ => d
def V.asBool {R : Type} (v : V) (d a b : R) : R := match v with | .bool x => bif x then a else b | _ => d
def V.asPtr {R : Type} (v : V) (d : R) (f : Nat → Nat → R) : R := match v with | .ptr (some (i, o)) => f i o | _ => d

def beqK (a b : IntKind) : Bool := Nat.beq (limK a) (limK b)
theorem beqK_eq (a b : IntKind) : beqK a b = decide (a = b) := by cases a <;> cases b <;> rfl

section
variable (E : Env) (call : CallF)

noncomputable def cEvs : List Operand → Bx (Tm → List V)
  | [] => ⟨fun _ => []⟩
  | x :: xs => match cEv x with | ⟨f⟩ => match cEvs xs with | ⟨g⟩ => ⟨fun t => f t :: g t⟩

theorem cEvs_eq : ∀ (l : List Operand) (t : Tm), (cEvs l).val t = l.map (ev t)
  | [], _ => rfl
  | x :: xs, t => by
    show (cEv x).val t :: (cEvs xs).val t = _
    rw [cEv_eq, cEvs_eq xs]; rfl

noncomputable def cEvO : Option Operand → Bx (Tm → Option V)
  | none => ⟨fun _ => none⟩
  | some x => match cEv x with | ⟨f⟩ => ⟨fun t => some (f t)⟩

theorem cEvO_eq (l : Option Operand) (t : Tm) : (cEvO l).val t = l.map (ev t) := by
  cases l with
  | none => rfl
  | some x => show some ((cEv x).val t) = _; rw [cEv_eq]; rfl

def binG (op : BinOp) (xt : TypeId) (x y : V) (h : Heap) : Option V := bif isAggV x && !E.eqs.contains xt then none else dBin E op xt x y h

noncomputable def cBin (op : BinOp) (xt : TypeId) : Bx (V → V → Heap → Option V) :=
  match op with
  | .shl => ⟨fun x y h => x.asInt (binG E op xt x y h) fun k a => y.asInt (binG E op xt x y h) fun _ b => shlF k a b⟩
  | .shr => ⟨fun x y h => x.asInt (binG E op xt x y h) fun k a => y.asInt (binG E op xt x y h) fun _ b => shrF k a b⟩
  | op => match cInt op with | ⟨f⟩ => ⟨fun x y h => x.asInt (binG E op xt x y h) fun k a => y.asInt (binG E op xt x y h) fun k' b => bif beqK k k' then f k a b else none⟩

theorem cBin_int {op : BinOp} {xt : TypeId} {k k' : IntKind} {a b : Int} {h : Heap} (h1 : op ≠ .shl) (h2 : op ≠ .shr) :
    (bif beqK k k' then (cInt op).val k a b else none) = binG E op xt (.int k a) (.int k' b) h := by
  rw [cInt_eq, beqK_eq]
  unfold binG
  simp only [isAggV, Bool.false_and, cond_false]
  have : dBin E op xt (.int k a) (.int k' b) h = if k = k' then dInt op k a b else none := by
    cases op <;> first | rfl | exact absurd rfl h1 | exact absurd rfl h2
  rw [this]
  by_cases hk : k = k'
  · simp [hk]
  · simp [hk]

theorem cBin_eq (op : BinOp) (xt : TypeId) (x y : V) (h : Heap) : (cBin E op xt).val x y h = binG E op xt x y h := by
  by_cases h1 : op = .shl
  · subst h1
    cases x <;> try rfl
    cases y <;> try rfl
    show shlF _ _ _ = _
    rw [shlF_eq]; rfl
  · by_cases h2 : op = .shr
    · subst h2
      cases x <;> try rfl
      cases y <;> try rfl
      show shrF _ _ _ = _
      rw [shrF_eq]; rfl
    · have e : (cBin E op xt).val x y h = x.asInt (binG E op xt x y h) fun k a => y.asInt (binG E op xt x y h) fun k' b => bif beqK k k' then (cInt op).val k a b else none := by
        cases op <;> first | rfl | exact absurd rfl h1 | exact absurd rfl h2
      rw [e]
      cases x <;> try rfl
      cases y <;> try rfl
      exact cBin_int E h1 h2

def dIdxS (s : Nat) (x ix : V) : Option V :=
  match x, ix with
  | .sl (some (i, o)) len _ _ _, .int _ n => (intIn n len).map fun k => .ptr (some (i, o + k * s))
  | _, _ => none

def fOff (s : TypeId) (f : Nat) : Option Nat :=
  match E.P.underlying s with
  | some (.struct fields) => (fields[f]?).bind fun x => (sizeB E x.type).bind fun n => bif Nat.beq n 0 then none else some x.offset
  | _ => none

theorem dFieldAddr_eq (s : TypeId) (v : V) (f : Nat) : dFieldAddr E s v f = v.asPtr none fun i o => (fOff E s f).map fun off => .ptr (some (i, o + off)) := by
  unfold dFieldAddr fOff
  cases E.P.underlying s with
  | none => cases v <;> try rfl
            rename_i a; cases a <;> rfl
  | some u =>
    cases u <;> cases v <;> try rfl
    all_goals (rename_i a; cases a <;> try rfl)
    rename_i fields p
    obtain ⟨i, o⟩ := p
    show (fields[f]?).bind _ = Option.map _ ((fields[f]?).bind _)
    cases fields[f]? with
    | none => rfl
    | some x =>
      show (sizeB E x.type).bind _ = Option.map _ ((sizeB E x.type).bind _)
      cases sizeB E x.type with
      | none => rfl
      | some n =>
        show (bif Nat.beq n 0 then none else _) = Option.map _ (bif Nat.beq n 0 then none else _)
        cases Nat.beq n 0 <;> rfl

noncomputable def cOp (o : Op) : CO :=
  match o with
  | .move x => match cEv x with | ⟨f⟩ => .pu fun t _ => some (f t)
  | .assign x => match cEv x with | ⟨f⟩ => .pu fun t _ => some (f t)
  | .pick c a b => match cEv c with | ⟨fc⟩ => match cEv a with | ⟨fa⟩ => match cEv b with | ⟨fb⟩ => .pu fun t _ => (fc t).asBool none (some (fa t)) (some (fb t))
  | .load ty a => match cEv a with | ⟨f⟩ => match aggB E ty with
    | some false => .pu fun t h => (f t).asPtr none fun i o => (h.cells i).bind fun cs => nthF cs o
    | _ => .pu fun t h => (f t).asPtr none fun i o => dLoad E ty i o h
  | .store ty a x => match cEv a with | ⟨fa⟩ => match cEv x with | ⟨fx⟩ => .ef fun t h => (fa t).asPtr none fun i o => asSkip (dStore E ty i o (fx t) h)
  | .binOp op xt x y _ => match cEv x with | ⟨fx⟩ => match cEv y with | ⟨fy⟩ => match cBin E op xt with | ⟨g⟩ => .pu fun t h => g (fx t) (fy t) h
  | .unOp op _ x => match cEv x with | ⟨f⟩ => .pu fun t _ => dUn op (f t)
  | .convert s d x => match cEv x with | ⟨f⟩ => match E.P.underlying s, E.P.underlying d with
    | some _, some (.int k) => .ef fun t h => (f t).asInt (dConvert E s d (f t) h) fun _ n => some (.int k (wrapF k n), h)
    | _, _ => .ef fun t h => dConvert E s d (f t) h
  | .slice ty x lo hi mx => match cEv x with | ⟨fx⟩ => match cEvO lo with | ⟨fl⟩ => match cEvO hi with | ⟨fh⟩ => match cEvO mx with | ⟨fm⟩ => .pu fun t h => dSlice E ty (fx t) (fl t) (fh t) (fm t) h
  | .fieldAddr s x f => match cEv x with | ⟨fx⟩ => match fOff E s f with
    | some off => .pu fun t _ => (fx t).asPtr none fun i o => some (.ptr (some (i, o + off)))
    | none => .pu fun _ _ => none
  | .field s x f => match cEv x with | ⟨fx⟩ => .pu fun t _ => dField E s (fx t) f
  | .indexAddr ty x ix => match cEv x with | ⟨fx⟩ => match cEv ix with | ⟨fi⟩ => match E.P.underlying ty with
    | some (.slice e) => match sizeB E e with
      | some s => .pu fun t _ => dIdxS s (fx t) (fi t)
      | none => .pu fun t _ => dIndexAddr E ty (fx t) (fi t)
    | _ => .pu fun t _ => dIndexAddr E ty (fx t) (fi t)
  | .index ty x ix => match cEv x with | ⟨fx⟩ => match cEv ix with | ⟨fi⟩ => .pu fun t _ => dIndex E ty (fx t) (fi t)
  | .lookup ty x ix ok => match cEv x with | ⟨fx⟩ => match cEv ix with | ⟨fi⟩ => .pu fun t h => dLookup E ty (fx t) (fi t) ok h
  | .mapUpdate ty m k x => match cEv m with | ⟨fm⟩ => match cEv k with | ⟨fk⟩ => match cEv x with | ⟨fx⟩ => .ef fun t h => asSkip (dMapUpdate E ty (fm t) (fk t) (fx t) h)
  | .extract x i => match cEv x with | ⟨fx⟩ => .pu fun t _ => dExtract (fx t) i
  | .call c => match cEvs c.args.toList with
    | ⟨fs⟩ => match c.callee with
      | .builtin b => .ef fun t h => dBuiltin E b c.argTypes (fs t) h
      | .value (.func f) => match E.ext f with
        | some e => .ef fun t h => dExt e (fs t) h
        | none => .ef fun t h => call false f (fs t) h
      | _ => .ef fun t h => dCall E call t c h
  | o => .ef fun t h => dOp E call o t h

theorem cOp_eq (o : Op) (t : Tm) (h : Heap) : (cOp E call o).app t h = dOp E call o t h := by
  cases o <;> try rfl
  case move x => show keep h (some ((cEv x).val t)) = _; rw [cEv_eq]; rfl
  case assign x => show keep h (some ((cEv x).val t)) = _; rw [cEv_eq]; rfl
  case pick c a b =>
    show keep h (((cEv c).val t).asBool none (some ((cEv a).val t)) (some ((cEv b).val t))) = _
    rw [cEv_eq, cEv_eq, cEv_eq]
    simp only [dOp]
    cases ev t c <;> try rfl
    rename_i x; cases x <;> rfl
  case load ty a =>
    have hg : keep h ((ev t a).asPtr none fun i o => dLoad E ty i o h) = dOp E call (.load ty a) t h := by
      simp only [dOp]
      cases ev t a <;> try rfl
      rename_i x; cases x <;> rfl
    cases hb : aggB E ty with
    | none =>
      simp only [cOp, hb]
      show keep h (((cEv a).val t).asPtr none fun i o => dLoad E ty i o h) = _
      rw [cEv_eq]; exact hg
    | some b => cases b with
      | true =>
        simp only [cOp, hb]
        show keep h (((cEv a).val t).asPtr none fun i o => dLoad E ty i o h) = _
        rw [cEv_eq]; exact hg
      | false =>
        rw [← hg]
        simp only [cOp, hb]
        show keep h (((cEv a).val t).asPtr none fun i o => (h.cells i).bind fun cs => nthF cs o) = _
        rw [cEv_eq]
        have : (fun i o => (h.cells i).bind fun cs => nthF cs o) = fun i o => dLoad E ty i o h := by
          funext i o
          unfold dLoad
          rw [hb]
          congr 1
          funext cs
          rw [nthF_eq]; rfl
        rw [this]
  case store ty a x =>
    show ((cEv a).val t).asPtr none (fun i o => asSkip (dStore E ty i o ((cEv x).val t) h)) = _
    rw [cEv_eq, cEv_eq]
    simp only [dOp]
    cases ev t a <;> rfl
  case binOp op xt x y rt =>
    show keep h ((cBin E op xt).val ((cEv x).val t) ((cEv y).val t) h) = _
    rw [cEv_eq, cEv_eq, cBin_eq]
    simp only [dOp, binG]
    cases (isAggV (ev t x) && !E.eqs.contains xt) <;> rfl
  case unOp op xt x =>
    show keep h (dUn op ((cEv x).val t)) = _
    rw [cEv_eq]; rfl
  case convert s d x =>
    have hg : CO.app (.ef fun t h => dConvert E s d ((cEv x).val t) h) t h = dOp E call (.convert s d x) t h := by
      show dConvert E s d ((cEv x).val t) h = _
      rw [cEv_eq]; rfl
    cases hs : E.P.underlying s with
    | none => rw [← hg]; simp only [cOp, hs] <;> rfl
    | some us => cases hd : E.P.underlying d with
      | none => rw [← hg]; simp only [cOp, hs, hd] <;> rfl
      | some ud =>
        rw [← hg]
        cases ud <;> first | (simp only [cOp, hs, hd] <;> rfl) | skip
        rename_i k
        simp only [cOp, hs, hd]
        show ((cEv x).val t).asInt (dConvert E s d ((cEv x).val t) h) (fun _ n => some (.int k (wrapF k n), h)) = dConvert E s d ((cEv x).val t) h
        cases (cEv x).val t <;> try rfl
        rename_i k' n
        show some (V.int k (wrapF k n), h) = _
        rw [wrapF_eq]
        simp only [dConvert, hs, hd]
  case slice ty x lo hi mx =>
    show keep h (dSlice E ty ((cEv x).val t) ((cEvO lo).val t) ((cEvO hi).val t) ((cEvO mx).val t) h) = _
    rw [cEv_eq, cEvO_eq, cEvO_eq, cEvO_eq]; rfl
  case fieldAddr s x f =>
    have key : (cOp E call (.fieldAddr s x f)).app t h = keep h (dFieldAddr E s ((cEv x).val t) f) := by
      rw [dFieldAddr_eq]
      simp only [cOp]
      cases fOff E s f with
      | none => cases (cEv x).val t <;> try rfl
                rename_i a; cases a <;> rfl
      | some off => rfl
    rw [key, cEv_eq]; rfl
  case field s x f =>
    show keep h (dField E s ((cEv x).val t) f) = _
    rw [cEv_eq]; rfl
  case indexAddr ty x ix =>
    have key : (cOp E call (.indexAddr ty x ix)).app t h = keep h (dIndexAddr E ty ((cEv x).val t) ((cEv ix).val t)) := by
      simp only [cOp]
      cases hu : E.P.underlying ty with
      | none => rfl
      | some u =>
        cases u <;> try rfl
        rename_i e
        simp only
        cases hz : sizeB E e with
        | none => rfl
        | some s =>
          show keep h (dIdxS s ((cEv x).val t) ((cEv ix).val t)) = _
          congr 1
          simp only [dIndexAddr, hu]
          cases (cEv x).val t <;> try rfl
          rename_i a l lo es ex
          cases a <;> try rfl
          cases (cEv ix).val t <;> try rfl
          rename_i k n
          show (intIn n l).map _ = (intIn n l).bind _
          cases intIn n l <;> simp [hz]
    rw [key, cEv_eq, cEv_eq]; rfl
  case index ty x ix =>
    show keep h (dIndex E ty ((cEv x).val t) ((cEv ix).val t)) = _
    rw [cEv_eq, cEv_eq]; rfl
  case lookup ty x ix ok =>
    show keep h (dLookup E ty ((cEv x).val t) ((cEv ix).val t) ok h) = _
    rw [cEv_eq, cEv_eq]; rfl
  case mapUpdate ty m k x =>
    show asSkip (dMapUpdate E ty ((cEv m).val t) ((cEv k).val t) ((cEv x).val t) h) = _
    rw [cEv_eq, cEv_eq, cEv_eq]; rfl
  case extract x i =>
    show keep h (dExtract ((cEv x).val t) i) = _
    rw [cEv_eq]; rfl
  case call c =>
    obtain ⟨callee, args, ats⟩ := c
    cases callee with
    | builtin b =>
      show dBuiltin E b ats ((cEvs args.toList).val t) h = _
      rw [cEvs_eq]; rfl
    | invoke a b => rfl
    | value f =>
      cases f <;> try rfl
      rename_i f
      simp only [cOp]
      cases he : E.ext f with
      | none =>
        show call false f ((cEvs args.toList).val t) h = _
        rw [cEvs_eq]
        simp only [dOp, dCall, ev, he, List.nil_append, List.append_nil]
      | some e =>
        show dExt e ((cEvs args.toList).val t) h = _
        rw [cEvs_eq]
        simp only [dOp, dCall, ev, he, List.nil_append, List.append_nil]

end
end Go.Zs
