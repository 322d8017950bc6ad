/- A sound evaluator for the model's programs, third part: regions, code, calls. -/
import Derived.Test.YtohbahdfbgndbaaGreatZsB
namespace Go.Zs
open Go

structure St where
  t : Tm
  h : Heap

mutual
/-- Are two values the same? -/
def V.same : V → V → Bool
  | .any, .any => true
  | .bool a, .bool b => a == b
  | .int j a, .int k b => decide (j = k) && decide (a = b)
  | .str a, .str b => beqBytes a b
  | .ptr none, .ptr none => true
  | .ptr (some (a, b)), .ptr (some (c, d)) => Nat.beq a c && Nat.beq b d
  | .sl none l m s e, .sl none l' m' s' e' => Nat.beq l l' && Nat.beq m m' && Nat.beq s s' && e == e'
  | .sl (some (a, b)) l m s e, .sl (some (c, d)) l' m' s' e' => Nat.beq a c && Nat.beq b d && Nat.beq l l' && Nat.beq m m' && Nat.beq s s' && e == e'
  | .map none, .map none => true
  | .map (some a), .map (some b) => Nat.beq a b
  | .fn f a b, .fn g c d => Nat.beq f g && V.sames a c && V.sames b d
  | .nilFn, .nilFn => true
  | .agg a, .agg b => V.sames a b
  | .tup a, .tup b => V.sames a b
  | _, _ => false
def V.sames : List V → List V → Bool
  | [], [] => true
  | a :: x, b :: y => V.same a b && V.sames x y
  | _, _ => false
end

section
variable (E : Env) (call : CallF)

/-- Is an operation wanted by its guard? (A guard that was not wanted itself wants nothing.) -/
def wantedV (ops : Array Oper) (o : Oper) (t : Tm) : Option Bool :=
  match o.guard with
  | none => some true
  | some (j, want) => ((ops[j]?).bind (·.dst)).bind fun d => match t.get d with | .bool b => some (b == want) | .tup _ => some false | _ => none

def putV (n : Nat) (t : Tm) (dst : Option Tmp) (v : V) : Tm :=
  match dst with
  | some d => bif Nat.blt d n then T.put t d (some v) else t
  | none => t

/-- An operation of a region: what it yields (nothing is yielded where its guard does not want it). -/
def dStep (ops : Array Oper) (o : Oper) (s : St) : Option (V × Heap) :=
  (wantedV ops o s.t).bind fun w => bif w then dOp E call o.op s.t s.h else some (.undef, s.h)

def dOps (n : Nat) (ops : Array Oper) : List Oper → St → Option St
  | [], s => some s
  | o :: rest, s => (dStep E call ops o s).bind fun r => dOps n ops rest ⟨putV n s.t o.dst r.1, r.2⟩

/-- May an operation turn the memory? -/
def effB : Op → Bool
  | .move _ | .assign _ | .pick .. | .build .. | .load .. | .nilCheck _ | .binOp .. | .unOp .. | .makeFunc .. | .slice .. | .fieldAddr .. | .field .. | .indexAddr .. | .index .. | .lookup .. | .extract .. => false
  | .convert _ d _ => match E.P.underlying d with | some (.slice _) => true | _ => false
  | .call { callee := .builtin .len, .. } | .call { callee := .builtin .min, .. } | .call { callee := .builtin .max, .. } => false
  | _ => true

/-- Which operations stand ahead of one, by the edges. -/
def maskOf (acc : List Nat) (o : Oper) : Nat :=
  o.after.toList.foldl (fun s e => bif Region.binds .any e then s ||| (2 ^ e.on ||| acc.getD e.on 0) else s) 0

def masks : List Oper → List Nat → List Nat
  | [], acc => acc
  | o :: os, acc => masks os (acc ++ [maskOf acc o])

/-- The operations in the text's order: what each saw and yielded; the memory ahead of each that may turn it, and at the end. -/
def pass1 (n : Nat) (ops : Array Oper) : List Oper → St → Option (List (Tm × V) × List Heap × St)
  | [], s => some ([], [s.h], s)
  | o :: rest, s => (dStep E call ops o s).bind fun r => (pass1 n ops rest ⟨putV n s.t o.dst r.1, r.2⟩).map fun x =>
      ((s.t, r.1) :: x.1, (bif effB E o.op then s.h :: x.2.1 else x.2.1), x.2.2)

/-- Operations that look at no memory. -/
def stillB : Op → Bool
  | .move _ | .assign _ | .pick .. | .unOp .. | .extract .. | .fieldAddr .. | .field .. | .indexAddr .. | .index .. | .nilCheck _ => true
  | _ => false

def countB (l : List Nat) (p : Nat → Bool) : Nat := (l.filter p).length

/-- Does an operation yield the same over all the memories that it may see? -/
def steady (ops : Array Oper) (o : Oper) (t : Tm) (v : V) (snaps : List Heap) (lo hi : Nat) : Bool :=
  ((snaps.take (hi + 1)).drop lo).all fun h => match dStep E call ops o ⟨t, h⟩ with | some r => V.same r.1 v | none => false

def pass2 (ops : Array Oper) (ms : List Nat) (effs : List Nat) (m : Nat) (snaps : List Heap) : List Oper → List (Tm × V) → Nat → Bool
  | [], [], _ => true
  | o :: os, (t, v) :: rs, i =>
    (effB E o.op || stillB o.op || steady E call ops o t v snaps (countB effs fun j => (ms.getD i 0).testBit j) (m - countB effs fun j => (ms.getD j 0).testBit i)) && pass2 ops ms effs m snaps os rs (i + 1)
  | _, _, _ => false

def effIdx (ops : List Oper) : List Nat := (List.range ops.length).filter fun i => match ops[i]? with | some o => effB E o.op | none => false

/-- A region that draws its order. -/
def dDraw (n : Nat) (ops : Array Oper) (s : St) : Option St :=
  (pass1 E call n ops ops.toList s).bind fun x =>
    match x.2.1 with
    | [_] => some x.2.2
    | snaps => bif pass2 E call ops (masks ops.toList []) (effIdx E ops.toList) (effIdx E ops.toList).length snaps ops.toList x.1 0 then some x.2.2 else none

/-- Operations that make an object and look at no memory. -/
def allocB : Op → Bool
  | .alloc _ | .box .. | .buildSlice .. => true
  | _ => false

/-- The operation of a region that makes an object and is not ordered with all that turn the memory. -/
def lateOf (ops : Array Oper) : Option Nat :=
  let l := ops.toList
  let ms := masks l []
  (List.range l.length).find? fun i => match l[i]? with
    | some o => allocB o.op && (List.range l.length).any fun j => match l[j]? with
      | some u => effB E u.op && !Nat.beq i j && !(bif Nat.blt j i then (ms.getD i 0).testBit j else (ms.getD j 0).testBit i)
      | none => false
    | none => false

def effX (ops : Array Oper) (f i : Nat) : Bool := match ops[i]? with | some o => effB E o.op && !Nat.beq i f | none => false

/-- An object is laid at a number (none: it has not been made). -/
def Heap.setO (h : Heap) (id : Nat) : Option (List V) → Heap
  | some cs => h.set id (.cells cs .own)
  | none => h

/-- The region's operations in the text's order; the object of operation f is laid where the first operation behind it turns the memory. -/
def passL (n : Nat) (ops : Array Oper) (ms : List Nat) (f id : Nat) : List Oper → Nat → St → Option (List V) → Bool → Option (List V × List Heap × Option (List V))
  | [], _, s, cs, _ => some ([], [s.h], cs)
  | o :: rest, i, s, cs, mat =>
    bif Nat.beq i f then
      (wantedV ops o s.t).bind fun w => bif w then
        (dOp E call o.op s.t ⟨id, .leaf⟩).bind fun r => match r.2.get id with
          | some (.cells cs' .own) => (passL n ops ms f id rest (i + 1) ⟨putV n s.t o.dst r.1, s.h⟩ (some cs') mat).map fun x => (r.1 :: x.1, x.2.1, x.2.2)
          | _ => none
        else (passL n ops ms f id rest (i + 1) ⟨putV n s.t o.dst .undef, s.h⟩ none mat).map fun x => (.undef :: x.1, x.2.1, x.2.2)
    else
      (dStep E call ops o ⟨s.t, bif (ms.getD i 0).testBit f && !mat then s.h.setO id cs else s.h⟩).bind fun r =>
        bif effB E o.op then (passL n ops ms f id rest (i + 1) ⟨putV n s.t o.dst r.1, r.2⟩ cs (mat || (ms.getD i 0).testBit f)).map fun x => (r.1 :: x.1, s.h :: x.2.1, x.2.2)
        else (passL n ops ms f id rest (i + 1) ⟨putV n s.t o.dst r.1, s.h⟩ cs mat).map fun x => (r.1 :: x.1, x.2.1, x.2.2)

def sameEs : List (V × V) → List (V × V) → Bool
  | [], [] => true
  | (a, b) :: x, (c, d) :: y => V.same a c && V.same b d && sameEs x y
  | _, _ => false

def Ob.same : Ob → Ob → Bool
  | .cells a k, .cells b j => V.sames a b && decide (k = j)
  | .map a bs cl, .map b bs' cl' => sameEs a b && decide (bs = bs') && Nat.beq cl cl'
  | .iter m s e l, .iter m' s' e' l' => decide (m = m') && Nat.beq s s' && decide (e = e') && Nat.beq l l'
  | _, _ => false

/-- Are two trees the same? -/
def T.same {α : Type} (f : α → α → Bool) : T α → T α → Bool
  | .leaf, .leaf => true
  | .node none l r, .node none l' r' => T.same f l l' && T.same f r r'
  | .node (some a) l r, .node (some b) l' r' => f a b && T.same f l l' && T.same f r r'
  | _, _ => false

def Heap.same (a b : Heap) : Bool := Nat.beq a.next b.next && T.same Ob.same a.objs b.objs

def snapAt (snaps : List Heap) (k : Nat) : Heap := snaps.getD k ⟨0, .leaf⟩

/-- The memory as an operation sees it: with the object of f, or not yet. -/
def viewL (snaps : List Heap) (id k0 : Nat) (cs : Option (List V)) (aft : Bool) (k : Nat) : Heap :=
  bif aft && Nat.ble k k0 then (snapAt snaps k).setO id cs else snapAt snaps k

/-- Does each operation yield what is said? -/
def chkL (n : Nat) (ops : Array Oper) (ms : List Nat) (f id k0 m : Nat) (cs : Option (List V)) (snaps : List Heap) (effs : List Nat) : List Oper → Nat → Tm → List V → Nat → Option Tm
  | [], _, t, [], _ => some t
  | o :: rest, i, t, u :: vs, p =>
    bif (bif Nat.beq i f then
        (match wantedV ops o t, cs with
          | some true, some cs => (match dOp E call o.op t ⟨id, .leaf⟩ with
            | some r => V.same r.1 u && (match r.2.get id with | some (.cells cs' .own) => V.sames cs' cs | _ => false)
            | none => false)
          | some false, none => V.same .undef u
          | _, _ => false)
      else bif effB E o.op then
        ((ms.getD i 0).testBit f == Nat.ble k0 p) &&
        (match dStep E call ops o ⟨t, viewL snaps id k0 cs ((ms.getD i 0).testBit f) p⟩ with
          | some r => V.same r.1 u && Heap.same r.2 (snapAt snaps (p + 1))
          | none => false)
      else
        (List.range (m + 1)).all fun k => bif Nat.ble (countB effs fun j => (ms.getD i 0).testBit j) k && Nat.ble (k + countB effs fun j => (ms.getD j 0).testBit i) m then
          (match dStep E call ops o ⟨t, viewL snaps id k0 cs ((ms.getD i 0).testBit f) k⟩ with
            | some r => V.same r.1 u
            | none => false)
          else true)
    then chkL n ops ms f id k0 m cs snaps effs rest (i + 1) (putV n t o.dst u) vs (bif effB E o.op && !Nat.beq i f then p + 1 else p) else none
  | _, _, _, _, _ => none

def effIdxL (ops : Array Oper) (f : Nat) : List Nat := (List.range ops.size).filter fun i => effX E ops f i

/-- A region that draws its order, in which operation f makes an object. -/
def dLate (n : Nat) (ops : Array Oper) (f : Nat) (s : St) : Option St :=
  let ms := masks ops.toList []
  let effs := effIdxL E ops f
  let k0 := countB effs fun i => !(ms.getD i 0).testBit f
  (passL E call n ops ms f s.h.next ops.toList 0 ⟨s.t, { s.h with next := s.h.next + 1 }⟩ none false).bind fun x =>
    bif Heap.same (snapAt x.2.1 0) { s.h with next := s.h.next + 1 } && ((List.range (k0 + 1)).all fun k => ((snapAt x.2.1 k).get s.h.next).isNone) then
      (chkL E call n ops ms f s.h.next k0 effs.length x.2.2 x.2.1 effs ops.toList 0 s.t x.1 0).map fun t => ⟨t, viewL x.2.1 s.h.next k0 x.2.2 true effs.length⟩
    else none

/-- A region that draws its order, the one way or the other. -/
def dAny (n : Nat) (ops : Array Oper) (s : St) : Option St :=
  match lateOf E ops with
  | none => dDraw E call n ops s
  | some f => dLate E call n ops f s

/-- So many rounds at most. -/
def iter (f : St → Option (Out × St)) : Nat → St → Option (Out × St)
  | 0, _ => none
  | k + 1, s => (f s).bind fun r => match r.1 with | .normal => iter f k r.2 | _ => some r

def Out.same : Out → Out → Bool
  | .normal, .normal => true
  | .exit i, .exit j => Nat.beq i j
  | .ret, .ret => true
  | _, _ => false

/-- Does all that one tree has stand in another one, too? -/
def T.sub {α : Type} (f : α → α → Bool) : T α → T α → Bool
  | .leaf, _ => true
  | .node none l r, .leaf => T.sub f l .leaf && T.sub f r .leaf
  | .node (some _) _ _, .leaf => false
  | .node none l r, .node _ l' r' => T.sub f l l' && T.sub f r r'
  | .node (some a) l r, .node (some b) l' r' => f a b && T.sub f l l' && T.sub f r r'
  | .node (some _) _ _, .node none _ _ => false

/-- The slots that a piece of code writes. -/
def dstsOf : Code → List Tmp
  | .region _ ops _ => ops.toList.filterMap (·.dst)
  | .seq a b => dstsOf a ++ dstsOf b
  | .cond _ a b => dstsOf a ++ dstsOf b
  | .block _ b | .loop b | .scope b => dstsOf b
  | _ => []

/-- What may differ by the order of a loop over a map is known no more: the slots that the loop writes, the iterator. -/
def havocT (n : Nat) (ds : List Tmp) (t : Tm) : Tm := ds.foldl (fun t d => putV n t (some d) .any) t
def killIt (x : V) (h : Heap) : Heap := match x with | .ptr (some (j, _)) => h.kill j | _ => h

/-- The objects below a number alone, of so many. -/
def belowN (h : Heap) : Nat → Heap
  | 0 => h
  | k + 1 => belowN (h.kill (h.next - (k + 1))) k
def below (n : Nat) (h : Heap) : Heap := belowN h (h.next - n)

/-- Is a result of the loop, begun with slots t, such as the canonical one says? -/
def fitsR (n : Nat) (ds : List Tmp) (t : Tm) (o : Out) (h : Heap) (q : Out × St) : Bool :=
  Out.same o q.1 && ((List.range n).all fun k => ds.any (Nat.beq k) || V.same (q.2.t.get k) (t.get k)) && Nat.beq h.next q.2.h.next && T.sub Ob.same h.objs q.2.h.objs

/-- What a result must be so that the canonical one stands for it. -/
def FitsP (n : Nat) (ds : List Tmp) (t : Tm) (o : Out) (h : Heap) (q : Out × St) : Prop :=
  o = q.1 ∧ (∀ k, k < n → k ∉ ds → q.2.t.get k = t.get k) ∧ h.next = q.2.h.next ∧ ∀ j u, h.get j = some u → q.2.h.get j = some u

/-- The same, asked: by a comparison that ends, else by what is true. -/
noncomputable def fitsB (n : Nat) (ds : List Tmp) (t : Tm) (o : Out) (h : Heap) (q : Out × St) : Bool := fitsR n ds t o h q || @decide (FitsP n ds t o h q) (Classical.propDecidable _)

/-- A loop over a map, in every order. -/
noncomputable def dMapRounds (n : Nat) (ops : Array Oper) (os : List Oper) (x : Operand) (dst : Option Tmp) (ds : List Tmp) (body : St → Option (Out × St)) : Nat → St → Option (Out × St)
  | 0, _ => none
  | k + 1, s => (dNexts (ev s.t x) s.h).bind fun outs =>
    (outs.mapM fun o => (dOps E call n ops os ⟨putV n s.t dst o.1, o.2⟩).bind fun s1 => (body s1).bind fun r => match r.1 with | .normal => dMapRounds n ops os x dst ds body k r.2 | _ => some r).bind fun rs =>
      match rs with
      | [] => none
      | [r] => some r
      | r :: rs => bif E.loose then
          (bif (r :: rs).all (fitsR n ds s.t r.1 (killIt (ev s.t x) r.2.h)) then some (r.1, ⟨havocT n ds s.t, killIt (ev s.t x) r.2.h⟩)
          else bif (r :: rs).all (fitsR n ds s.t r.1 (below s.h.next (killIt (ev s.t x) r.2.h))) then some (r.1, ⟨havocT n ds s.t, below s.h.next (killIt (ev s.t x) r.2.h)⟩) else none)
        else bif (r :: rs).all (fitsB n ds s.t r.1 (killIt (ev s.t x) r.2.h)) then some (r.1, ⟨havocT n ds s.t, killIt (ev s.t x) r.2.h⟩) else none

/-- Does a round begin with the step of an iterator? -/
def headOf (ops : Array Oper) : Option (Operand × Option Tmp × List Oper) :=
  match ops.toList with
  | o :: os => match o.op, o.guard with
    | .next x false, none => some (x, o.dst, os)
    | _, _ => none
  | _ => none

noncomputable def dCode (n lf : Nat) : Code → St → Option (Out × St)
  | .skip, s => some (.normal, s)
  | .label _, s => some (.normal, s)
  | .region _ ops false, s => (dOps E call n ops ops.toList s).map fun s => (.normal, s)
  | .region _ ops true, s => (dAny E call n ops s).map fun s => (.normal, s)
  | .seq a b, s => (dCode n lf a s).bind fun r => match r.1 with | .normal => dCode n lf b r.2 | _ => some r
  | .cond c a b, s => match ev s.t c with | .bool true => dCode n lf a s | .bool false => dCode n lf b s | _ => none
  | .block id b, s => (dCode n lf b s).map fun r => match r.1 with | .exit j => bif Nat.beq j id then (.normal, r.2) else r | _ => r
  | .loop b, s => (match b with
    | .seq (.region i ops false) rest => (headOf ops).map fun (y : Operand × Option Tmp × List Oper) => dMapRounds E call n ops y.2.2 y.1 y.2.1 (dstsOf (.seq (.region i ops false) rest)) (dCode n lf rest) lf s
    | _ => none).getD (iter (dCode n lf b) lf s)
  | .exit id, s => some (.exit id, s)
  | .ret, s => some (.ret, s)
  | .rangeFunc g ps assign body, s => match ev s.t g with
    | .fn f [] captured =>
      match E.ext f with
      | some _ => none
      | none => (call false f (.yld s.h.next :: captured) (s.h.new (.loop .ready .normal n s.t ps.toList assign body))).bind fun r =>
        match r.2.get s.h.next with
        | some (.loop .busy _ _ _ _ _ _) => none
        | some (.loop _ pend _ _ _ _ _) => some (pend, ⟨s.t, r.2.kill s.h.next⟩)
        | _ => none
    | _ => none
  | _, _ => none

/-- What a function hands back. -/
def dResult (t : Tm) (h : Heap) : ResultVar → Option V
  | .tmp k => some (t.get k)
  | .cell a ty => match t.get a with | .ptr (some (i, o)) => dLoad E ty i o h | _ => none

def dResults (fn : Func) (s : St) : Option V :=
  (fn.results.toList.mapM (dResult E s.t s.h)).map fun vs => match vs with | [v] => v | vs => .tup vs

def argTm : List V → Nat → Tm → Tm
  | [], _, t => t
  | v :: vs, k, t => argTm vs (k + 1) (T.put t k (some v))

end

def putArgs (n : Nat) : List Nat → List V → Tm → Tm
  | d :: ds, v :: vs, t => putArgs n ds vs (putV n t (some d) v)
  | _, _, t => t

def Out.isNormal : Out → Bool
  | .normal => true
  | _ => false

/-- A call, with so much fuel. (A function that has a summary is taken by it.) -/
noncomputable def run (E : Env) (lf : Nat) : Nat → CallF
  | 0, _, _, _, _ => none
  | k + 1, false, f, args, h =>
    match E.sum f with
    | some g => g args h
    | none => (E.P.funcs[f]?).bind fun fn => fn.body.bind fun c =>
      bif E.fine.testBit f && Nat.ble args.length fn.ntmps then
        (dCode E (run E lf k) fn.ntmps lf c ⟨argTm args 0 .leaf, h⟩).bind fun r => match r.1 with | .exit _ => none | _ => (dResults E fn r.2).map fun v => (v, r.2.h)
      else none
  | k + 1, true, i, args, h =>
    match h.get i with
    | some (.loop .ready _ n t ps assign body) =>
      bif Nat.beq args.length ps.length then
      (dCode E (run E lf k) n lf assign ⟨putArgs n ps args t, h⟩).bind fun r1 => match r1.1 with
        | .normal => match r1.2.h.get i with
          | some (.loop .ready p2 n2 t2 ps2 as2 bd2) => (dCode E (run E lf k) n lf body ⟨r1.2.t, r1.2.h.set i (.loop .busy p2 n2 t2 ps2 as2 bd2)⟩).bind fun r2 =>
            match r2.2.h.get i with
            | some (.loop _ _ n3 t3 ps3 as3 bd3) => some (.bool r2.1.isNormal, r2.2.h.set i (.loop (bif r2.1.isNormal then .ready else .done) r2.1 n3 t3 ps3 as3 bd3))
            | _ => none
          | _ => none
        | _ => none
      else none
    | _ => none

/-- What is asked of a region that draws its order, by its text: edges go back; a slot's writers and readers are ordered; what may turn the memory is ordered. -/
def okRegion (E : Env) (ops : Array Oper) : Bool :=
  let l := ops.toList
  let ms := masks l []
  let b (i j : Nat) : Bool := (ms.getD i 0).testBit j
  (List.range l.length).all fun i => match l[i]? with
    | none => false
    | some o => o.after.toList.all (fun e => !Region.binds .any e || decide (e.on < i)) &&
      (match o.op with | .select .. => false | _ => true) &&
      (List.range l.length).all fun j => match l[j]? with
        | none => false
        | some u =>
          (match u.dst with
            | none => true
            | some d => (bif (o.looksAt ops).contains d then (bif Nat.blt j i then b i j else bif Nat.blt i j then b j i else false) else true) &&
                (bif o.dst == some d then (bif Nat.blt j i then b i j else bif Nat.blt i j then b j i else true) else true)) &&
          (bif effB E o.op && effB E u.op then (bif Nat.blt j i then b i j else bif Nat.blt i j then b j i else true) else true)

/-- The same, where operation f is taken apart. -/
def okLate (E : Env) (ops : Array Oper) (f : Nat) : Bool :=
  let l := ops.toList
  let ms := masks l []
  let b (i j : Nat) : Bool := (ms.getD i 0).testBit j
  (match l[f]? with | some o => allocB o.op | none => false) &&
  (List.range l.length).all fun i => match l[i]? with
    | none => false
    | some o => o.after.toList.all (fun e => !Region.binds .any e || decide (e.on < i)) &&
      (match o.op with | .select .. => false | _ => true) &&
      (List.range l.length).all fun j => match l[j]? with
        | none => false
        | some u =>
          (match u.dst with
            | none => true
            | some d => (bif (o.looksAt ops).contains d then (bif Nat.blt j i then b i j else bif Nat.blt i j then b j i else false) else true) &&
                (bif o.dst == some d then (bif Nat.blt j i then b i j else bif Nat.blt i j then b j i else true) else true)) &&
          (bif (effB E o.op && !Nat.beq i f) && (effB E u.op && !Nat.beq j f) then (bif Nat.blt j i then b i j else bif Nat.blt i j then b j i else true) else true)

def okAny (E : Env) (ops : Array Oper) : Bool :=
  match lateOf E ops with
  | none => okRegion E ops
  | some f => okLate E ops f

/-- No loop over a function. -/
def plainC : Code → Bool
  | .rangeFunc .. => false
  | .seq a b | .cond _ a b => plainC a && plainC b
  | .block _ b | .loop b | .scope b => plainC b
  | _ => true

def okCode (E : Env) : Code → Bool
  | .region _ ops true => okAny E ops
  | .seq a b => okCode E a && okCode E b
  | .cond _ a b => okCode E a && okCode E b
  | .block _ b | .loop b | .scope b => okCode E b
  | .rangeFunc _ _ a b => okCode E a && okCode E b && plainC a && plainC b
  | _ => true

/-- What is asked of a round's code. -/
def okRound (E : Env) (c : Code) : Bool := okCode E c && plainC c

end Go.Zs
