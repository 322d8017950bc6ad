/- A typed form of 'run' for code without loops over maps and over functions: slots are a function, what comes behind an operation is handed on; whatever it yields 'run' yields. -/
import Derived.Test.YtkgglkoooldodaaZsI4
set_option linter.unusedVariables false
set_option linter.unusedSimpArgs false
set_option linter.deprecated false
namespace Go.Zs
open Go

abbrev Fs := Nat → V

def putF (n : Nat) (f : Fs) (dst : Option Tmp) (v : V) : Fs :=
  match dst with
  | some d => bif Nat.blt d n then (fun k => bif Nat.beq k d then v else f k) else f
  | none => f

theorem putF_eq (n : Nat) (t : Tm) (dst : Option Tmp) (v : V) : putF n t.get dst v = (putV n t dst v).get := by
  cases dst with
  | none => rfl
  | some d =>
    simp only [putF, putV]
    cases Nat.blt d n
    · rfl
    · funext k
      simp only [cond_true]
      rw [Tm.get_put]
      by_cases h : k = d
      · rw [if_pos h, T.beq_true h]; rfl
      · rw [if_neg h, T.beq_false h]; rfl

def evF (f : Fs) : Operand → V
  | .tmp k => f k
  | .const v => ofValue v
  | .global _ => .any
  | .func g => .fn g [] []

theorem evF_eq (t : Tm) : evF t.get = ev t := by
  funext x
  cases x <;> rfl

section
variable {R : Type}

/-- A choice that the kernel takes first. -/
abbrev iteB (c : Bool) (a b : Option R) : Option R := match c with | true => a | false => b

/-! What operations do, by the kinds of what they are given. -/
def cndV (c : V) (a b : Option R) : Option R := match c with | .bool c => bif c then a else b | _ => none
def pkK (c a b : V) (K : V → Option R) : Option R := match c with | .bool c => K (bif c then a else b) | _ => none
def gdV (v : V) (want : Bool) (a b : Option R) : Option R := match v with | .bool x => bif x == want then a else b | .tup _ => b | _ => none
def gdP (v : V) (want : Bool) (x : Option V) (K : V → Option R) : Option R := (gdV v want x (some .undef)).bind K
def gdE (v : V) (want : Bool) (x : Option (V × Heap)) (h : Heap) (K : V → Heap → Option R) : Option R := (gdV v want x (some (.undef, h))).bind fun r => K r.1 r.2
def ld1 (p : V) (h : Heap) (K : V → Option R) : Option R := match p with | .ptr (some (i, o)) => (h.cells i).bind fun cs => (cs[o]?).bind K | _ => none
def ldA (n : Nat) (p : V) (h : Heap) (K : V → Option R) : Option R := match p with | .ptr (some (i, o)) => (h.cells i).bind fun cs => bif Nat.ble (o + n) cs.length then K (.agg ((cs.drop o).take n)) else none | _ => none
def st1 (p v : V) (h : Heap) (K : Heap → Option R) : Option R :=
  match p with
  | .ptr (some (i, o)) => match h.get i with
    | some (.cells cs k) => bif k.wr && Nat.blt o cs.length && v.one then K (h.set i (.cells (cs.set o v) k)) else none
    | _ => none
  | _ => none
def stA (n : Nat) (p v : V) (h : Heap) (K : Heap → Option R) : Option R :=
  match p with
  | .ptr (some (i, o)) => match v with
    | .agg vs => match h.get i with
      | some (.cells cs k) => bif k.wr && Nat.ble (o + n) cs.length && Nat.beq vs.length n && vs.all V.one then K (h.set i (.cells (splice cs o vs) k)) else none
      | _ => none
    | _ => none
  | _ => none
def newC (cs : List V) (h : Heap) (K : V → Heap → Option R) : Option R := K (.ptr (some (h.next, 0))) (h.new (.cells cs .own))
def box1 (x : V) (h : Heap) (K : V → Heap → Option R) : Option R := bif x.one then newC [x] h K else none
def boxA (x : V) (h : Heap) (K : V → Heap → Option R) : Option R := match x with | .agg cs => newC cs h K | _ => none
def newS (len s : Nat) (cs : List V) (h : Heap) (K : V → Heap → Option R) : Option R := K (.sl (some (h.next, 0)) len len s true) (h.new (.cells cs .own))
def nilV (x : V) (K : V → Option R) : Option R := match x with | .ptr (some a) => K (.ptr (some a)) | .fn f a b => K (.fn f a b) | _ => none
def fil1 (off : Nat) (v : V) (cs : List V) (K : List V → Option R) : Option R := bif v.one && Nat.blt off cs.length then K (cs.set off v) else none
def filA (off n : Nat) (v : V) (cs : List V) (K : List V → Option R) : Option R := match v with | .agg vs => bif Nat.beq vs.length n && Nat.ble (off + n) cs.length then K (splice cs off vs) else none | _ => none
def fillK (place : Nat → Option (Nat × Nat × Bool)) : List V → List (Nat × V) → (List V → Option R) → Option R
  | cs, [], K => K cs
  | cs, (i, v) :: rest, K => match place i with
    | none => none
    | some (off, n, false) => iteB (Nat.beq n 1) (fil1 off v cs fun cs => fillK place cs rest K) none
    | some (off, n, true) => filA off n v cs fun cs => fillK place cs rest K
def intOp (op : BinOp) (k : IntKind) (a : Int) (k' : IntKind) (b : Int) : Option V :=
  match op with
  | .shl => if b < 0 then none else some (.int k (k.wrap (a * 2 ^ (min b.toNat k.bits))))
  | .shr => if b < 0 then none else some (.int k (a.fdiv (2 ^ (min b.toNat k.bits))))
  | op => if k = k' then dInt op k a b else none
def intK (op : BinOp) (x y : V) (K : V → Option R) : Option R := match x with | .int k a => (match y with | .int k' b => (intOp op k a k' b).bind K | _ => none) | _ => none
def strK (op : BinOp) (x y : V) (K : V → Option R) : Option R := match x with | .str a => (match y with | .str b => (dStr op a b).bind K | _ => none) | _ => none
/-- '==' of what may be nil. -/
def eqPtr (s : Nat) (x y : V) (h : Heap) : Option Bool :=
  match x with
  | .ptr a => match y with
    | .ptr b => match a with
      | none => some b.isNone
      | some (i, o) => match b with
        | none => some false
        | some (j, u) => bif Nat.beq s 0 then none else bif Nat.beq i j then some (Nat.beq o u) else bif live h i && live h j then some false else none
    | _ => none
  | _ => none
def eqSl (x y : V) : Option Bool := match x with | .sl a _ _ _ _ => (match y with | .sl b _ _ _ _ => (match a with | none => some b.isNone | some _ => bif b.isNone then some false else none) | _ => none) | _ => none
def eqMap (x y : V) : Option Bool := match x with | .map a => (match y with | .map b => (match a with | none => some b.isNone | some _ => bif b.isNone then some false else none) | _ => none) | _ => none
def eqFn (x y : V) : Option Bool := match x with | .nilFn => (match y with | .nilFn => some true | .fn _ _ _ => some false | _ => none) | .fn _ _ _ => (match y with | .nilFn => some false | _ => none) | _ => none
def refK (neg : Bool) (x : Option Bool) (K : V → Option R) : Option R := x.bind fun b => K (.bool (b != neg))
def binV (E : Env) (op : BinOp) (xt : TypeId) (x y : V) (h : Heap) (K : V → Option R) : Option R := bif isAggV x && !E.eqs.contains xt then none else (dBin E op xt x y h).bind K
def unK (op : UnOp) (x : V) (K : V → Option R) : Option R := (dUn op x).bind K
def cvI (k : IntKind) (x : V) (K : V → Option R) : Option R := match x with | .int _ n => K (.int k (k.wrap n)) | _ => none
def cvS (x : V) (K : V → Option R) : Option R := match x with | .str s => K (.str s) | _ => none
def cvSB (x : V) (h : Heap) (K : V → Heap → Option R) : Option R :=
  match x with
  | .str s => bif Nat.ble s.length 1073741824 then K (.sl (some (h.next, 0)) s.length s.length 1 false) (h.new (.cells (s.map fun b => .int .u8 b.toNat) .mark)) else none
  | _ => none
def cvBS (x : V) (h : Heap) (K : V → Option R) : Option R :=
  match x with
  | .sl none _ _ _ _ => K (.str [])
  | .sl (some (i, o)) len _ _ _ => (h.cells i).bind fun cs => bif Nat.beq len 0 then K (.str []) else bif Nat.ble (o + len) cs.length then (bytesOfVs ((cs.drop o).take len)).bind fun s => K (.str s) else none
  | _ => none
def newM (h : Heap) (K : V → Heap → Option R) : Option R := K (.map (some h.next)) (h.new (.map [] [] 0))
def bindVH (x : Option (V × Heap)) (K : V → Heap → Option R) : Option R := x.bind fun r => K r.1 r.2
def faK (off : Nat) (v : V) (K : V → Option R) : Option R := match v with | .ptr (some (i, o)) => K (.ptr (some (i, o + off))) | _ => none
def fl1 (off : Nat) (v : V) (K : V → Option R) : Option R := match v with | .agg cs => (cs[off]?).bind K | _ => none
def flA (off n : Nat) (v : V) (K : V → Option R) : Option R := match v with | .agg cs => K (.agg ((cs.drop off).take n)) | _ => none
/-- The place of an element: of a slice, of an array. -/
def iaS (s : Nat) (x ix : V) (K : V → Option R) : Option R := match x with | .sl (some (i, o)) len _ _ _ => (match ix with | .int _ n => (intIn n len).bind fun k => K (.ptr (some (i, o + k * s))) | _ => none) | _ => none
def iaA (len s : Nat) (x ix : V) (K : V → Option R) : Option R := match x with | .ptr (some (i, o)) => (match ix with | .int _ n => (intIn n len).bind fun k => K (.ptr (some (i, o + k * s))) | _ => none) | _ => none
def ixS (x ix : V) (K : V → Option R) : Option R := match x with | .str s => (match ix with | .int _ n => (intIn n s.length).bind fun k => (s[k]?).bind fun b => K (.int .u8 b.toNat) | _ => none) | _ => none
def exK (i : Nat) (x : V) (K : V → Option R) : Option R := match x with | .tup vs => (vs[i]?).bind K | _ => none
/-- A slice of a string, of a slice. -/
def slS (x : V) (lo hi : Option V) (K : V → Option R) : Option R := match x with | .str s => (dBound hi s.length s.length).bind fun b => (dBound lo 0 b).bind fun a => K (.str ((s.drop a).take (b - a))) | _ => none
def slL (s : Nat) (x : V) (lo hi : Option V) (K : V → Option R) : Option R :=
  match x with
  | .sl a len least es ex => match a with
    | none => bif Nat.beq len 0 && Nat.beq least 0 && ex then (dBound hi 0 0).bind fun _ => (dBound lo 0 0).bind fun _ => K (.sl none 0 0 es true) else none
    | some (i, o) => bif Nat.beq es s then (dBound hi len least).bind fun b => (dBound lo 0 b).bind fun a => K (.sl (some (i, o + a * s)) (b - a) (least - a) s ex) else none
  | _ => none
def lenS (x : V) (K : V → Option R) : Option R := match x with | .str s => K (.int .i64 s.length) | _ => none
def lenL (x : V) (K : V → Option R) : Option R := match x with | .sl _ n _ _ _ => K (.int .i64 n) | _ => none
def lenM (x : V) (h : Heap) (K : V → Option R) : Option R := match x with | .map none => K (.int .i64 0) | .map (some i) => (match h.get i with | some (.map es _ _) => K (.int .i64 es.length) | _ => none) | _ => none
/-- 'append' of a slice or of a string. -/
def appL (size : Nat) (s x : V) (h : Heap) (K : V → Heap → Option R) : Option R :=
  match s with
  | .sl a len lo es ex =>
    (dLenOf x).bind fun n => (dFirst size n x h).bind fun new =>
    bif !Nat.ble (len + n) 1073741824 || !Nat.beq new.length (n * size) then none else
    bif Nat.beq n 0 then K (.sl a len lo es ex) h else
    match a with
    | none => bif Nat.beq lo 0 then K (.sl (some (h.next, 0)) n n size false) (h.new (.cells new .own)) else none
    | some (i, o) =>
      bif !Nat.beq es size then none else
      bif Nat.ble (len + n) lo then (dStoreCells i (o + len * size) new h).bind fun h => K (.sl (some (i, o)) (len + n) lo es ex) h
      else (dFirst size len s h).bind fun old =>
        bif ex then K (.sl (some (h.next, 0)) (len + n) (len + n) size false) (h.new (.cells (old ++ new) .own))
        else match h.get i with
          | some (.cells _ k) => bif k.wr && new.all V.one then K (.sl (some (h.next, 0)) (len + n) (len + n) size false) ((h.kill i).new (.cells (old ++ new) (k.low o lo))) else none
          | _ => none
  | _ => none
def mkS (bytes size : Nat) (z : List V) (l c : V) (h : Heap) (K : V → Heap → Option R) : Option R :=
  match l with
  | .int _ (.ofNat l) => match c with
    | .int _ (.ofNat c) => bif Nat.ble l c && Nat.ble (bytes * c) 281474976710656 && Nat.ble c 1073741824 then K (.sl (some (h.next, 0)) l c size true) (h.new (.cells (copies z c) .own)) else none
    | _ => none
  | _ => none
def callV (E : Env) (call : CallF) (g : V) (args : List V) (h : Heap) (K : V → Heap → Option R) : Option R :=
  match g with
  | .fn f first captured => match E.ext f with
    | some e => bindVH (dExt e (first ++ args ++ captured) h) K
    | none => bindVH (call false f (first ++ args ++ captured) h) K
  | .yld i => bindVH (call true i args h) K
  | _ => none

section
variable (E : Env)

def kLoad (ty : TypeId) (p : V) (h : Heap) (K : V → Option R) : Option R :=
  match aggB E ty with
  | some true => (match sizeB E ty with | some n => ldA n p h K | none => none)
  | some false => ld1 p h K
  | none => none

def kPlaces (fields : List Field) : Option (List (Nat × Nat × Bool)) := fields.mapM fun f => (sizeB E f.type).bind fun n => (aggB E f.type).map fun a => (f.offset, n, a)

def kBuiltin (b : Builtin) (ts : Array TypeId) (args : List V) (h : Heap) (K : V → Heap → Option R) : Option R :=
  match b, args with
  | .len, [x] => match (ts[0]?).bind E.P.underlying with
    | some .string => lenS x fun v => K v h
    | some (.slice _) => lenL x fun v => K v h
    | some (.map _ _) => lenM x h fun v => K v h
    | _ => bindVH (dBuiltin E b ts args h) K
  | .append, [s, x] => match (ts[0]?).bind E.P.underlying, (ts[1]?).bind E.P.underlying with
    | some (.slice e), some d => match E.P.info? e, zeroB E e, isIntD d with
      | some info, some z, some false => iteB (!Nat.beq info.size 0 && Nat.ble info.bytes 65536 && z.plain && Nat.beq z.cells.length info.size) (appL info.size s x h K) none
      | _, _, _ => none
    | _, _ => none
  | b, args => bindVH (dBuiltin E b ts args h) K

def gOp (call : CallF) (e : Operand → V) (o : Op) (h : Heap) (K : V → Heap → Option R) : Option R :=
  match o with
  | .move x | .assign x => K (e x) h
  | .pick c a b => pkK (e c) (e a) (e b) fun v => K v h
  | .alloc t => match zeroB E t with
    | some z => iteB z.plain (newC z.cells h K) none
    | none => none
  | .box t x => match aggB E t with
    | some true => boxA (e x) h K
    | some false => box1 (e x) h K
    | none => none
  | .build ty parts => match zeroB E ty with
    | some z => iteB z.plain (match E.P.underlying ty with
      | some (.struct fields) => match kPlaces E fields.toList with
        | some places => fillK (fun i => places[i]?) z.cells (parts.toList.map fun p => (p.1, e p.2)) fun cs => K (.agg cs) h
        | none => none
      | some (.array _ t) => match sizeB E t, aggB E t with
        | some n, some a => fillK (fun i => some (i * n, n, a)) z.cells (parts.toList.map fun p => (p.1, e p.2)) fun cs => K (.agg cs) h
        | _, _ => none
      | _ => none) none
    | none => none
  | .buildSlice ty len parts => match E.P.underlying ty with
    | some (.slice t) => match sizeB E t, aggB E t with
      | some s, some a => iteB (Nat.ble (len * s) 16777216) (match zerosB E t len with
          | some z => fillK (fun i => some (i * s, s, a)) z (parts.toList.map fun p => (p.1, e p.2)) fun cs => newS len s cs h K
          | none => none) none
      | _, _ => none
    | _ => none
  | .load ty a => kLoad E ty (e a) h fun v => K v h
  | .store ty a x => match aggB E ty, sizeB E ty with
    | some true, some n => stA n (e a) (e x) h fun h => K .undef h
    | some false, some n => iteB (Nat.beq n 1) (st1 (e a) (e x) h fun h => K .undef h) none
    | _, _ => none
  | .nilCheck x => nilV (e x) fun v => K v h
  | .binOp op xt x y _ => match E.P.underlying xt with
    | some (.int _) => intK op (e x) (e y) fun v => K v h
    | some .string => strK op (e x) (e y) fun v => K v h
    | some (.pointer t) => match sizeB E t, op with
      | some s, .eql => refK false (eqPtr s (e x) (e y) h) fun v => K v h
      | some s, .neq => refK true (eqPtr s (e x) (e y) h) fun v => K v h
      | _, _ => none
    | some (.slice _) => match op with
      | .eql => refK false (eqSl (e x) (e y)) fun v => K v h
      | .neq => refK true (eqSl (e x) (e y)) fun v => K v h
      | _ => none
    | some (.map _ _) => match op with
      | .eql => refK false (eqMap (e x) (e y)) fun v => K v h
      | .neq => refK true (eqMap (e x) (e y)) fun v => K v h
      | _ => none
    | some (.func _ _ _) => match op with
      | .eql => refK false (eqFn (e x) (e y)) fun v => K v h
      | .neq => refK true (eqFn (e x) (e y)) fun v => K v h
      | _ => none
    | _ => binV E op xt (e x) (e y) h fun v => K v h
  | .unOp op _ x => unK op (e x) fun v => K v h
  | .convert s d x => match E.P.underlying s, E.P.underlying d with
    | some _, some (.int k) => cvI k (e x) fun v => K v h
    | some .string, some .string => cvS (e x) fun v => K v h
    | some .string, some (.slice t) => (match E.P.underlying t with | some (.int .u8) => cvSB (e x) h K | _ => none)
    | some (.slice t), some .string => (match E.P.underlying t with | some (.int .u8) => cvBS (e x) h fun v => K v h | _ => none)
    | _, _ => none
  | .makeFunc (.func f) first captured => K (.fn f (first.toList.map e) (captured.toList.map e)) h
  | .makeMap _ none => newM h K
  | .makeSlice ty l c => match E.P.underlying ty with
    | some (.slice t) => match E.P.info? t, zeroB E t with
      | some i, some z => iteB (!Nat.beq i.size 0 && z.plain && Nat.beq z.cells.length i.size) (mkS i.bytes i.size z.cells (e l) (e c) h K) none
      | _, _ => none
    | _ => none
  | .slice ty x lo hi mx => match mx.map e, E.P.underlying ty with
    | none, some .string => slS (e x) (lo.map e) (hi.map e) fun v => K v h
    | none, some (.slice t) => (match sizeB E t with | some s => slL s (e x) (lo.map e) (hi.map e) fun v => K v h | none => none)
    | _, _ => (dSlice E ty (e x) (lo.map e) (hi.map e) (mx.map e) h).bind fun v => K v h
  | .fieldAddr s x f => match E.P.underlying s with
    | some (.struct fields) => match fields[f]? with
      | some x' => match sizeB E x'.type with
        | some n => iteB (Nat.beq n 0) none (faK x'.offset (e x) fun v => K v h)
        | none => none
      | none => none
    | _ => none
  | .field s x f => match E.P.underlying s with
    | some (.struct fields) => match fields[f]? with
      | some x' => match aggB E x'.type, sizeB E x'.type with
        | some true, some n => flA x'.offset n (e x) fun v => K v h
        | some false, _ => fl1 x'.offset (e x) fun v => K v h
        | _, _ => none
      | none => none
    | _ => none
  | .indexAddr ty x ix => match E.P.underlying ty with
    | some (.slice t) => (match sizeB E t with | some s => iaS s (e x) (e ix) fun v => K v h | none => none)
    | some (.array len t) => (match sizeB E t with | some s => iaA len s (e x) (e ix) fun v => K v h | none => none)
    | _ => none
  | .index ty x ix => match E.P.underlying ty with
    | some .string => ixS (e x) (e ix) fun v => K v h
    | _ => (dIndex E ty (e x) (e ix)).bind fun v => K v h
  | .lookup ty x ix ok => (dLookup E ty (e x) (e ix) ok h).bind fun v => K v h
  | .mapUpdate ty m k x | .insert ty m k x => (dMapUpdate E ty (e m) (e k) (e x) h).bind fun h => K .undef h
  | .extract x i => exK i (e x) fun v => K v h
  | .range ty x => bindVH (dRange E ty (e x) h) K
  | .entry x => (dEntry (e x) h).bind fun v => K v h
  | .call c => match c.callee with
    | .builtin b => kBuiltin E b c.argTypes (c.args.toList.map e) h K
    | .value g => callV E call (e g) (c.args.toList.map e) h K
    | .invoke _ _ => none
  | _ => none

end

/-- One step of the one form stands for one of the other. -/
def Goes (x : Option R) (y : Option (V × Heap)) (K : V → Heap → Option R) : Prop := ∀ r, x = some r → ∃ v h, y = some (v, h) ∧ K v h = some r

theorem goes_bindVH {x : Option (V × Heap)} {K : V → Heap → Option R} : Goes (bindVH x K) x K := by
  intro r h
  cases x with
  | none => cases h
  | some p => exact ⟨p.1, p.2, rfl, h⟩

theorem goes_bind {x : Option V} {h : Heap} {K : V → Heap → Option R} : Goes (x.bind fun v => K v h) (keep h x) K := by
  intro r hr
  cases x with
  | none => cases hr
  | some v => exact ⟨v, h, rfl, hr⟩

theorem goes_skip {x : Option Heap} {K : V → Heap → Option R} : Goes (x.bind fun h => K .undef h) (asSkip x) K := by
  intro r hr
  cases x with
  | none => cases hr
  | some v => exact ⟨_, v, rfl, hr⟩

theorem goes_none {y : Option (V × Heap)} {K : V → Heap → Option R} : Goes (none : Option R) y K := fun _ h => by cases h

end
end Go.Zs
/- The typed form of 'run': its operations stand for those of 'run'. -/
namespace Go.Zs
open Go

section
variable {R : Type} {E : Env} {K : V → Heap → Option R} {h : Heap}

theorem one_cells {v : V} (h : v.one = true) : v.plain = true ∧ v.cells = [v] ∧ isAggV v = false := by
  cases v <;> simp [V.one] at h <;> exact ⟨rfl, rfl, rfl⟩

theorem splice_one {cs : List V} {o : Nat} {v : V} (h : o < cs.length) : splice cs o [v] = cs.set o v := by
  unfold splice
  rw [List.set_eq_take_append_cons_drop, if_pos h]
  simp

theorem ite_some {c : Bool} {x : Option R} {r : R} (h : (bif c then x else none) = some r) : c = true ∧ x = some r := by
  cases c
  · cases h
  · exact ⟨rfl, h⟩

theorem iteB_some {c : Bool} {x : Option R} {r : R} (h : iteB c x none = some r) : c = true ∧ x = some r := by
  cases c
  · cases h
  · exact ⟨rfl, h⟩

theorem bnd_some {α : Type} {x : Option α} {f : α → Option R} {r : R} (h : x.bind f = some r) : ∃ a, x = some a ∧ f a = some r := by
  cases x with
  | none => cases h
  | some a => exact ⟨a, rfl, h⟩

theorem goes_pick {c a b : V} {y : Option (V × Heap)} (hy : y = match c with | .bool true => some (a, h) | .bool false => some (b, h) | _ => none) : Goes (pkK c a b fun v => K v h) y K := by
  intro r hr
  subst hy
  cases c <;> simp only [pkK] at hr <;> try (cases hr; done)
  rename_i x
  cases x
  · exact ⟨_, _, rfl, hr⟩
  · exact ⟨_, _, rfl, hr⟩

theorem fill_goes {place : Nat → Option (Nat × Nat)} {place' : Nat → Option (Nat × Nat × Bool)} (hp : ∀ i off n a, place' i = some (off, n, a) → place i = some (off, n)) {K : List V → Option R} : ∀ (ps : List (Nat × V)) (cs : List V) (r : R),
    fillK place' cs ps K = some r → ∃ cs', dFill place cs ps = some cs' ∧ K cs' = some r
  | [], cs, r, h => ⟨cs, rfl, h⟩
  | (i, v) :: rest, cs, r, h => by
    simp only [fillK] at h
    split at h
    · cases h
    · rename_i off n hpl
      obtain ⟨hn, q1⟩ := iteB_some h
      have := Nat.eq_of_beq_eq_true hn
      subst this
      simp only [fil1] at q1
      obtain ⟨hc, q2⟩ := ite_some q1
      simp only [Bool.and_eq_true] at hc
      obtain ⟨h1, h2, _⟩ := one_cells hc.1
      have hlt : off < cs.length := Nat.le_of_ble_eq_true hc.2
      obtain ⟨cs', e1, e2⟩ := fill_goes hp rest _ r q2
      refine ⟨cs', ?_, e2⟩
      simp only [dFill, hp _ _ _ _ hpl, h1, h2, List.length_singleton, splice_one hlt]
      have : Nat.ble (off + 1) cs.length = true := Nat.ble_eq_true_of_le hlt
      rw [this]
      exact e1
    · rename_i off n hpl
      unfold filA at h
      split at h
      · rename_i vs
        obtain ⟨hc, q2⟩ := ite_some h
        simp only [Bool.and_eq_true] at hc
        have := Nat.eq_of_beq_eq_true hc.1
        subst this
        obtain ⟨cs', e1, e2⟩ := fill_goes hp rest _ r q2
        refine ⟨cs', ?_, e2⟩
        simp only [dFill, hp _ _ _ _ hpl, V.plain, V.cells, Nat.beq_refl, Bool.true_and, hc.2, cond_true]
        exact e1
      · cases h

theorem places_some : ∀ {fields : List Field} {places : List (Nat × Nat × Bool)}, kPlaces E fields = some places → (fields.mapM fun f => (sizeB E f.type).map fun n => (f.offset, n)) = some (places.map fun p => (p.1, p.2.1))
  | [], places, h => by
    simp [kPlaces] at h; subst h; rfl
  | f :: fs, places, h => by
    simp only [kPlaces, List.mapM_cons] at h
    obtain ⟨p, h1, h2⟩ := bnd_some h
    obtain ⟨ps, h3, h4⟩ := bnd_some h2
    cases h4
    obtain ⟨n, h5, h6⟩ := bnd_some h1
    have := places_some (fields := fs) (places := ps) h3
    rw [List.mapM_cons, h5, this]
    cases ha : aggB E f.type with
    | none => rw [ha] at h6; cases h6
    | some a => rw [ha] at h6; cases h6; rfl

theorem load_goes {ty : TypeId} {p : V} {y : Option (V × Heap)} (hy : y = match p with | .ptr (some (i, o)) => keep h (dLoad E ty i o h) | _ => none) : Goes (kLoad E ty p h fun v => K v h) y K := by
  intro r hr
  subst hy
  unfold kLoad at hr
  split at hr
  · rename_i ha
    split at hr
    · rename_i n hn
      unfold ldA at hr
      split at hr
      · obtain ⟨cs, h1, h2⟩ := bnd_some hr
        obtain ⟨h3, h4⟩ := ite_some h2
        refine ⟨_, h, ?_, h4⟩
        simp only [dLoad, h1, ha, hn, h3, Option.bind_some, cond_true]
        rfl
      · cases hr
    · cases hr
  · rename_i ha
    unfold ld1 at hr
    split at hr
    · obtain ⟨cs, h1, h2⟩ := bnd_some hr
      obtain ⟨v, h3, h4⟩ := bnd_some h2
      refine ⟨v, h, ?_, h4⟩
      simp only [dLoad, h1, ha, h3, Option.bind_some, cond_false]
      rfl
    · cases hr
  · cases hr

theorem store_goes {ty : TypeId} {p v : V} {y : Option (V × Heap)} (hy : y = match p with | .ptr (some (i, o)) => asSkip (dStore E ty i o v h) | _ => none) :
    Goes (match aggB E ty, sizeB E ty with | some true, some n => stA n p v h fun h => K .undef h | some false, some n => iteB (Nat.beq n 1) (st1 p v h fun h => K .undef h) none | _, _ => none) y K := by
  intro r hr
  subst hy
  split at hr
  · rename_i n ha hn
    unfold stA at hr
    split at hr
    · split at hr
      · split at hr
        · rename_i i o vs cs k hg
          obtain ⟨h1, h2⟩ := ite_some hr
          simp only [Bool.and_eq_true] at h1
          have := Nat.eq_of_beq_eq_true h1.1.2
          subst this
          refine ⟨_, _, ?_, h2⟩
          simp only [dStore, hn, V.plain, V.cells, Option.bind_some, cond_true, Nat.beq_refl, dStoreCells, hg, h1.1.1.1, h1.1.1.2, h1.2, Bool.and_self]
          rfl
        · cases hr
      · cases hr
    · cases hr
  · rename_i n ha hn
    obtain ⟨h0, hr1⟩ := iteB_some hr
    have := Nat.eq_of_beq_eq_true h0
    subst this
    unfold st1 at hr1
    split at hr1
    · rename_i i o
      split at hr1
      · rename_i cs k hg
        obtain ⟨h1, h2⟩ := ite_some hr1
        simp only [Bool.and_eq_true] at h1
        obtain ⟨g1, g2, _⟩ := one_cells h1.2
        have hlt : o < cs.length := Nat.le_of_ble_eq_true h1.1.2
        refine ⟨_, _, ?_, h2⟩
        have e : Nat.ble (o + 1) cs.length = true := Nat.ble_eq_true_of_le hlt
        simp only [dStore, hn, g1, g2, Option.bind_some, cond_true, List.length_singleton, Nat.beq_refl, dStoreCells, hg, h1.1.1, e, List.all_cons, h1.2, List.all_nil, Bool.and_self, splice_one hlt]
        rfl
      · cases hr1
    · cases hr1
  · cases hr

theorem bin_int {op : BinOp} {xt : TypeId} {k k' : IntKind} {a b : Int} : dBin E op xt (.int k a) (.int k' b) h = intOp op k a k' b := by
  cases op <;> rfl

theorem bin_str {op : BinOp} {xt : TypeId} {a b : List UInt8} : dBin E op xt (.str a) (.str b) h = dStr op a b := by
  cases op <;> rfl

theorem int_goes {op : BinOp} {xt : TypeId} {x y : V} : Goes (intK op x y fun v => K v h) (bif isAggV x && !E.eqs.contains xt then none else keep h (dBin E op xt x y h)) K := by
  intro r hr
  unfold intK at hr
  split at hr
  · split at hr
    · obtain ⟨v, h1, h2⟩ := bnd_some hr
      exact ⟨v, h, by simp only [isAggV, Bool.false_and, cond_false, bin_int, h1]; rfl, h2⟩
    · cases hr
  · cases hr

theorem str_goes {op : BinOp} {xt : TypeId} {x y : V} : Goes (strK op x y fun v => K v h) (bif isAggV x && !E.eqs.contains xt then none else keep h (dBin E op xt x y h)) K := by
  intro r hr
  unfold strK at hr
  split at hr
  · split at hr
    · obtain ⟨v, h1, h2⟩ := bnd_some hr
      exact ⟨v, h, by simp only [isAggV, Bool.false_and, cond_false, bin_str, h1]; rfl, h2⟩
    · cases hr
  · cases hr

/-- '==' and '!=' of what may be nil. -/
theorem ref_goes {xt : TypeId} {x y : V} {q : Option Bool} (hx : ∀ b, q = some b → isAggV x = false ∧ dEqual E 100 xt x y h = some b ∧ (∀ k n, x ≠ .int k n) ∧ ∀ s, x ≠ .str s) (neg : Bool) :
    Goes (refK neg q fun v => K v h) (bif isAggV x && !E.eqs.contains xt then none else keep h (dBin E (bif neg then .neq else .eql) xt x y h)) K := by
  intro r hr
  unfold refK at hr
  obtain ⟨b, h1, h2⟩ := bnd_some hr
  obtain ⟨g1, g2, g3, g4⟩ := hx b h1
  refine ⟨_, h, ?_, h2⟩
  rw [g1]
  simp only [Bool.false_and, cond_false]
  cases neg
  · have : dBin E .eql xt x y h = (dEqual E 100 xt x y h).map .bool := by
      cases x <;> first | rfl | exact absurd rfl (g3 _ _) | exact absurd rfl (g4 _)
    simp only [cond_false, this, g2]
    cases b <;> rfl
  · have : dBin E .neq xt x y h = (dEqual E 100 xt x y h).map fun b => .bool (!b) := by
      cases x <;> first | rfl | exact absurd rfl (g3 _ _) | exact absurd rfl (g4 _)
    simp only [cond_true, this, g2]
    cases b <;> rfl

theorem eqPtr_spec {xt t : TypeId} {s : Nat} {x y : V} (hu : E.P.underlying xt = some (.pointer t)) (hs : sizeB E t = some s) (b : Bool) (hq : eqPtr s x y h = some b) : isAggV x = false ∧ dEqual E 100 xt x y h = some b ∧ (∀ k n, x ≠ .int k n) ∧ ∀ s, x ≠ .str s := by
  unfold eqPtr at hq
  split at hq
  · split at hq
    · refine ⟨rfl, ?_, fun _ _ => (by intro h; cases h), fun _ => (by intro h; cases h)⟩
      split at hq
      · rename_i b'; simp only [dEqual, hu]; exact hq
      · split at hq
        · simp only [dEqual, hu]; exact hq
        · simp only [dEqual, hu, hs, Option.bind_some]; exact hq
    · cases hq
  · cases hq

theorem eqSl_spec {xt t : TypeId} {x y : V} (hu : E.P.underlying xt = some (.slice t)) (b : Bool) (hq : eqSl x y = some b) : isAggV x = false ∧ dEqual E 100 xt x y h = some b ∧ (∀ k n, x ≠ .int k n) ∧ ∀ s, x ≠ .str s := by
  unfold dEqual
  cases x <;> try (cases hq; done)
  cases y <;> try (cases hq; done)
  rename_i a _ _ _ _ b' _ _ _ _
  refine ⟨rfl, ?_, fun _ _ => (by intro h; cases h), fun _ => (by intro h; cases h)⟩
  rw [hu]
  cases a <;> cases b' <;> first | exact hq | cases hq

theorem eqMap_spec {xt t u : TypeId} {x y : V} (hu : E.P.underlying xt = some (.map t u)) (b : Bool) (hq : eqMap x y = some b) : isAggV x = false ∧ dEqual E 100 xt x y h = some b ∧ (∀ k n, x ≠ .int k n) ∧ ∀ s, x ≠ .str s := by
  unfold dEqual
  cases x <;> try (cases hq; done)
  cases y <;> try (cases hq; done)
  rename_i a b'
  refine ⟨rfl, ?_, fun _ _ => (by intro h; cases h), fun _ => (by intro h; cases h)⟩
  rw [hu]
  cases a <;> cases b' <;> first | exact hq | cases hq

theorem eqFn_spec {xt : TypeId} {a b' : Array TypeId} {c : Bool} {x y : V} (hu : E.P.underlying xt = some (.func a b' c)) (b : Bool) (hq : eqFn x y = some b) : isAggV x = false ∧ dEqual E 100 xt x y h = some b ∧ (∀ k n, x ≠ .int k n) ∧ ∀ s, x ≠ .str s := by
  unfold dEqual
  cases x <;> try (cases hq; done)
  all_goals
    cases y <;> try (cases hq; done)
    all_goals
      refine ⟨rfl, ?_, fun _ _ => (by intro h; cases h), fun _ => (by intro h; cases h)⟩
      rw [hu]
      exact hq

end
end Go.Zs
/- The typed form of 'run': the rest of its operations; regions, code, functions. -/
namespace Go.Zs
open Go

section
variable {R : Type} {E : Env} {K : V → Heap → Option R} {h : Heap}

theorem conv_goes {s d : TypeId} {x : V} : Goes (match E.P.underlying s, E.P.underlying d with
    | some _, some (.int k) => cvI k x fun v => K v h
    | some .string, some .string => cvS x fun v => K v h
    | some .string, some (.slice t) => (match E.P.underlying t with | some (.int .u8) => cvSB x h K | _ => none)
    | some (.slice t), some .string => (match E.P.underlying t with | some (.int .u8) => cvBS x h fun v => K v h | _ => none)
    | _, _ => none) (dConvert E s d x h) K := by
  intro r hr
  unfold dConvert
  split at hr
  · rename_i k h1 h2
    unfold cvI at hr
    split at hr
    · exact ⟨_, _, by simp only [h1, h2], hr⟩
    · cases hr
  · rename_i h1 h2
    unfold cvS at hr
    split at hr
    · exact ⟨_, _, by simp only [h1, h2], hr⟩
    · cases hr
  · rename_i t h1 h2
    split at hr
    · rename_i h3
      unfold cvSB at hr
      split at hr
      · obtain ⟨h4, h5⟩ := ite_some hr
        exact ⟨_, _, by simp only [h1, h2, h3, h4, cond_true], h5⟩
      · cases hr
    · cases hr
  · rename_i t h1 h2
    split at hr
    · rename_i h3
      unfold cvBS at hr
      split at hr
      · exact ⟨_, _, by simp only [h1, h2, h3], hr⟩
      · rename_i i o len lo es ex
        obtain ⟨cs, h4, h5⟩ := bnd_some hr
        cases hl : Nat.beq len 0
        · rw [hl] at h5
          obtain ⟨h6, h7⟩ := ite_some h5
          obtain ⟨b, h8, h9⟩ := bnd_some h7
          exact ⟨_, _, by simp only [h1, h2, h3, h4, hl, h6, h8, Option.bind_some, cond_true, cond_false, Option.map_some], h9⟩
        · rw [hl] at h5
          exact ⟨_, _, by simp only [h1, h2, h3, h4, hl, Option.bind_some, cond_true], h5⟩
      · cases hr
    · cases hr
  · cases hr

theorem mks_goes {ty : TypeId} {l c : V} : Goes (match E.P.underlying ty with
    | some (.slice t) => match E.P.info? t, zeroB E t with
      | some i, some z => iteB (!Nat.beq i.size 0 && z.plain && Nat.beq z.cells.length i.size) (mkS i.bytes i.size z.cells l c h K) none
      | _, _ => none
    | _ => none) (dMakeSlice E ty l c h) K := by
  intro r hr
  split at hr
  · rename_i t hu
    split at hr
    · rename_i i z hi hz
      obtain ⟨h1, h2⟩ := iteB_some hr
      simp only [Bool.and_eq_true] at h1
      unfold mkS at h2
      split at h2
      · split at h2
        · obtain ⟨h3, h4⟩ := ite_some h2
          refine ⟨_, _, ?_, h4⟩
          rename_i a b
          have hs : sizeB E t = some i.size := by unfold sizeB; rw [hi]; rfl
          have hzz : zerosB E t b = some (copies z.cells b) := by
            unfold zerosB
            simp only [hs, Option.bind_some, hz, h1.1.2, h1.2, Bool.and_self, cond_true]
            cases hb : Nat.beq (b * i.size) 0
            · rfl
            · have e1 := Nat.eq_of_beq_eq_true hb
              have e2 : i.size ≠ 0 := by
                intro e
                rw [e] at h1
                simp at h1
              have : b = 0 := by
                rcases Nat.mul_eq_zero.1 e1 with h | h
                · exact h
                · exact absurd h e2
              subst this
              rfl
          simp only [dMakeSlice, hu, hi, Option.bind_some, h3, cond_true, hzz]
          rfl
        · cases h2
      · cases h2
    · cases hr
  · cases hr

theorem slice_goes {ty : TypeId} {x : V} {lo hi mx : Option V} : Goes (match mx, E.P.underlying ty with
    | none, some .string => slS x lo hi fun v => K v h
    | none, some (.slice t) => (match sizeB E t with | some s => slL s x lo hi fun v => K v h | none => none)
    | _, _ => (dSlice E ty x lo hi mx h).bind fun v => K v h) (keep h (dSlice E ty x lo hi mx h)) K := by
  intro r hr
  split at hr
  · rename_i hu
    unfold slS at hr
    split at hr
    · obtain ⟨b, h1, h2⟩ := bnd_some hr
      obtain ⟨a, h3, h4⟩ := bnd_some h2
      exact ⟨_, _, by simp only [dSlice, hu, h1, h3, Option.bind_some, Option.map_some]; rfl, h4⟩
    · cases hr
  · rename_i t hu
    split at hr
    · rename_i s hs
      unfold slL at hr
      split at hr
      · split at hr
        · rename_i len least es ex
          obtain ⟨h0, hr1⟩ := ite_some hr
          simp only [Bool.and_eq_true] at h0
          have e1 := Nat.eq_of_beq_eq_true h0.1.1
          have e2 := Nat.eq_of_beq_eq_true h0.1.2
          have e3 := h0.2
          subst e1 e2 e3
          obtain ⟨b, h1, h2⟩ := bnd_some hr1
          obtain ⟨a, h3, h4⟩ := bnd_some h2
          exact ⟨_, _, by simp only [dSlice, hu, hs, h1, h3, Option.bind_some, Option.map_some]; rfl, h4⟩
        · obtain ⟨h0, hr1⟩ := ite_some hr
          obtain ⟨b, h1, h2⟩ := bnd_some hr1
          obtain ⟨a, h3, h4⟩ := bnd_some h2
          exact ⟨_, _, by simp only [dSlice, hu, hs, h0, h1, h3, Option.bind_some, Option.map_some, cond_true]; rfl, h4⟩
      · cases hr
    · cases hr
  · exact goes_bind r hr

theorem faddr_goes {s : TypeId} {x : V} {f : Nat} : Goes (match E.P.underlying s with
    | some (.struct fields) => match fields[f]? with
      | some x' => match sizeB E x'.type with
        | some n => iteB (Nat.beq n 0) none (faK x'.offset x fun v => K v h)
        | none => none
      | none => none
    | _ => none) (keep h (dFieldAddr E s x f)) K := by
  intro r hr
  split at hr
  · rename_i fields hu
    split at hr
    · rename_i x' hx
      split at hr
      · rename_i n hn
        cases hb : Nat.beq n 0
        · simp only [hb] at hr
          unfold faK at hr
          split at hr
          · exact ⟨_, _, by simp only [dFieldAddr, hu, hx, hn, hb, Option.bind_some, cond_false]; rfl, hr⟩
          · cases hr
        · simp only [hb] at hr; cases hr
      · cases hr
    · cases hr
  · cases hr

theorem field_goes {s : TypeId} {x : V} {f : Nat} : Goes (match E.P.underlying s with
    | some (.struct fields) => match fields[f]? with
      | some x' => match aggB E x'.type, sizeB E x'.type with
        | some true, some n => flA x'.offset n x fun v => K v h
        | some false, _ => fl1 x'.offset x fun v => K v h
        | _, _ => none
      | none => none
    | _ => none) (keep h (dField E s x f)) K := by
  intro r hr
  split at hr
  · rename_i fields hu
    split at hr
    · rename_i x' hx
      split at hr
      · rename_i n ha hn
        unfold flA at hr
        split at hr
        · exact ⟨_, _, by simp only [dField, dPart, hu, hx, hn, ha, Option.bind_some, cond_true, Option.map_some]; rfl, hr⟩
        · cases hr
      · rename_i ha
        unfold fl1 at hr
        split at hr
        · obtain ⟨v, h1, h2⟩ := bnd_some hr
          exact ⟨_, _, by simp only [dField, dPart, hu, hx, ha, Option.bind_some, cond_false, h1]; rfl, h2⟩
        · cases hr
      · cases hr
    · cases hr
  · cases hr

theorem iaddr_goes {ty : TypeId} {x ix : V} : Goes (match E.P.underlying ty with
    | some (.slice t) => (match sizeB E t with | some s => iaS s x ix fun v => K v h | none => none)
    | some (.array len t) => (match sizeB E t with | some s => iaA len s x ix fun v => K v h | none => none)
    | _ => none) (keep h (dIndexAddr E ty x ix)) K := by
  intro r hr
  split at hr
  · rename_i t hu
    split at hr
    · rename_i s hs
      unfold iaS at hr
      split at hr
      · split at hr
        · obtain ⟨k, h1, h2⟩ := bnd_some hr
          exact ⟨_, _, by simp only [dIndexAddr, hu, hs, h1, Option.bind_some, Option.map_some]; rfl, h2⟩
        · cases hr
      · cases hr
    · cases hr
  · rename_i len t hu
    split at hr
    · rename_i s hs
      unfold iaA at hr
      split at hr
      · split at hr
        · obtain ⟨k, h1, h2⟩ := bnd_some hr
          exact ⟨_, _, by simp only [dIndexAddr, hu, hs, h1, Option.bind_some, Option.map_some]; rfl, h2⟩
        · cases hr
      · cases hr
    · cases hr
  · cases hr

theorem intIn_lt {n : Int} {len k : Nat} (h : intIn n len = some k) : n = k ∧ k < len := by
  unfold intIn at h
  split at h
  · obtain ⟨h1, h2⟩ := ite_some h
    cases h2
    exact ⟨rfl, Nat.le_of_ble_eq_true h1⟩
  · cases h

theorem index_goes {ty : TypeId} {x ix : V} : Goes (match E.P.underlying ty with
    | some .string => ixS x ix fun v => K v h
    | _ => (dIndex E ty x ix).bind fun v => K v h) (keep h (dIndex E ty x ix)) K := by
  intro r hr
  split at hr
  · rename_i hu
    unfold ixS at hr
    split at hr
    · split at hr
      · rename_i s _ kk n
        obtain ⟨k, h1, h2⟩ := bnd_some hr
        obtain ⟨b, h3, h4⟩ := bnd_some h2
        obtain ⟨rfl, _⟩ := intIn_lt h1
        refine ⟨_, _, ?_, h4⟩
        unfold dIndex
        rw [hu]
        show keep h ((s[k]?).map fun b => V.int .u8 b.toNat) = _
        rw [h3]
        rfl
      · cases hr
    · cases hr
  · exact goes_bind r hr

theorem extract_goes {x : V} {i : Nat} : Goes (exK i x fun v => K v h) (keep h (dExtract x i)) K := by
  intro r hr
  unfold exK at hr
  split at hr
  · obtain ⟨v, h1, h2⟩ := bnd_some hr
    exact ⟨v, h, by simp only [dExtract, h1]; rfl, h2⟩
  · cases hr

theorem call_goes {call : CallF} {g : V} {args : List V} {y : Option (V × Heap)} (hy : y = match g with
    | .fn f first captured => (match E.ext f with
      | some e => dExt e (first ++ args ++ captured) h
      | none => call false f (first ++ args ++ captured) h)
    | .yld i => call true i args h
    | _ => none) : Goes (callV E call g args h K) y K := by
  intro r hr
  subst hy
  unfold callV at hr
  split at hr
  · split at hr
    · rename_i he; first | exact goes_bindVH r hr | (simp only [he]; exact goes_bindVH r hr)
    · rename_i he; first | exact goes_bindVH r hr | (simp only [he]; exact goes_bindVH r hr)
  · exact goes_bindVH r hr
  · cases hr

theorem append_goes {ts : Array TypeId} {s x : V} {e : TypeId} {d : TypeDesc} {info : TypeInfo} {z : V} (h1 : (ts[0]?).bind E.P.underlying = some (.slice e)) (h2 : (ts[1]?).bind E.P.underlying = some d) (h3 : E.P.info? e = some info) (h4 : zeroB E e = some z)
    (h5 : isIntD d = some false) (h6 : (!Nat.beq info.size 0 && Nat.ble info.bytes 65536 && z.plain && Nat.beq z.cells.length info.size) = true) : Goes (appL info.size s x h K) (dAppend E ts s x h) K := by
  intro r hr
  simp only [Bool.and_eq_true, Bool.not_eq_true'] at h6
  obtain ⟨⟨⟨g1, g2⟩, g3⟩, g4⟩ := h6
  unfold appL at hr
  split at hr
  · rename_i a len lo es ex
    obtain ⟨n, e1, hr1⟩ := bnd_some hr
    obtain ⟨new, e2, hr2⟩ := bnd_some hr1
    have hd : dAppend E ts (.sl a len lo es ex) x h = (bif !Nat.ble (len + n) 1073741824 || !Nat.beq new.length (n * info.size) then none else
      bif Nat.beq n 0 then some (.sl a len lo es ex, h) else
      match a with
      | none => bif Nat.beq lo 0 then some (.sl (some (h.next, 0)) n n info.size false, h.new (.cells new .own)) else none
      | some (i, o) =>
        bif !Nat.beq es info.size then none else
        bif Nat.ble (len + n) lo then (dStoreCells i (o + len * info.size) new h).map fun h => (.sl (some (i, o)) (len + n) lo es ex, h)
        else (dFirst info.size len (.sl a len lo es ex) h).bind fun old =>
          bif ex then some (.sl (some (h.next, 0)) (len + n) (len + n) info.size false, h.new (.cells (old ++ new) .own))
          else match h.get i with
            | some (.cells _ k) => bif k.wr && new.all V.one then some (.sl (some (h.next, 0)) (len + n) (len + n) info.size false, (h.kill i).new (.cells (old ++ new) (k.low o lo))) else none
            | _ => none) := by
      unfold dAppend
      rw [h1, h2]
      simp only [h3, h4, h5, Option.bind_some, cond_false, e1, e2, g1, g2, g3, g4, Bool.false_or, Bool.not_true, Bool.or_false]
      cases Nat.ble (len + n) 1073741824
      · rfl
      · rfl
    rw [hd]
    cases hb : (!Nat.ble (len + n) 1073741824 || !Nat.beq new.length (n * info.size))
    · rw [hb, cond_false] at hr2
      rw [cond_false]
      cases hn : Nat.beq n 0
      · rw [hn, cond_false] at hr2
        rw [cond_false]
        cases a with
        | none =>
          simp only at hr2 ⊢
          obtain ⟨q1, q2⟩ := ite_some hr2
          exact ⟨_, _, by rw [q1]; rfl, q2⟩
        | some p =>
          obtain ⟨i, o⟩ := p
          simp only at hr2 ⊢
          cases he : (!Nat.beq es info.size)
          · rw [he, cond_false] at hr2
            rw [cond_false]
            cases hle : Nat.ble (len + n) lo
            · rw [hle, cond_false] at hr2
              rw [cond_false]
              obtain ⟨old, q1, q2⟩ := bnd_some hr2
              rw [q1, Option.bind_some]
              cases ex
              · rw [cond_false] at q2 ⊢
                cases hg : h.get i with
                | none => rw [hg] at q2; cases q2
                | some ob =>
                  rw [hg] at q2
                  cases ob <;> try (cases q2; done)
                  simp only at q2 ⊢
                  obtain ⟨q3, q4⟩ := ite_some q2
                  exact ⟨_, _, by rw [q3]; rfl, q4⟩
              · rw [cond_true] at q2 ⊢
                exact ⟨_, _, rfl, q2⟩
            · rw [hle, cond_true] at hr2
              rw [cond_true]
              obtain ⟨h', q1, q2⟩ := bnd_some hr2
              exact ⟨_, _, by rw [q1]; rfl, q2⟩
          · rw [he] at hr2; cases hr2
      · rw [hn, cond_true] at hr2
        exact ⟨_, _, rfl, hr2⟩
    · rw [hb] at hr2; cases hr2
  · cases hr

theorem builtin_goes {b : Builtin} {ts : Array TypeId} {args : List V} : Goes (kBuiltin E b ts args h K) (dBuiltin E b ts args h) K := by
  intro r hr
  unfold kBuiltin at hr
  split at hr
  · rename_i x
    cases ht : ts[0]? with
    | none =>
      rw [ht] at hr
      exact goes_bindVH r hr
    | some t =>
      rw [ht, Option.bind_some] at hr
      split at hr
      · rename_i hu
        unfold lenS at hr
        split at hr
        · exact ⟨_, _, by simp only [dBuiltin, dLen, ht, hu, Option.bind_some]; rfl, hr⟩
        · cases hr
      · rename_i e hu
        unfold lenL at hr
        split at hr
        · exact ⟨_, _, by simp only [dBuiltin, dLen, ht, hu, Option.bind_some]; rfl, hr⟩
        · cases hr
      · rename_i k e hu
        unfold lenM at hr
        split at hr
        · exact ⟨_, _, by simp only [dBuiltin, dLen, ht, hu, Option.bind_some]; rfl, hr⟩
        · split at hr
          · rename_i i es bs cl hg
            exact ⟨_, _, by simp only [dBuiltin, dLen, ht, hu, hg, Option.bind_some]; rfl, hr⟩
          · cases hr
        · cases hr
      · exact goes_bindVH r hr
  · split at hr
    · rename_i h1 h2
      split at hr
      · rename_i h3 h4 h5
        obtain ⟨h6, h7⟩ := iteB_some hr
        exact append_goes h1 h2 h3 h4 h5 h6 r h7
      · cases hr
    · cases hr
  · exact goes_bindVH r hr

theorem gOp_goes (call : CallF) (o : Op) (t : Tm) : Goes (gOp E call (ev t) o h K) (dOp E call o t h) K := by
  cases o with
  | move x => exact fun r hr => ⟨_, _, rfl, hr⟩
  | assign x => exact fun r hr => ⟨_, _, rfl, hr⟩
  | pick c a b => exact goes_pick rfl
  | alloc e =>
    intro r hr
    simp only [gOp] at hr
    split at hr
    · rename_i z hz
      obtain ⟨h1, h2⟩ := iteB_some hr
      exact ⟨_, _, by simp only [dOp, hz, h1, Option.bind_some, cond_true], h2⟩
    · cases hr
  | box ty x =>
    intro r hr
    simp only [gOp] at hr
    split at hr
    · unfold boxA at hr
      split at hr
      · rename_i cs hx
        exact ⟨_, _, by simp only [dOp, hx, V.plain, V.cells, cond_true], hr⟩
      · cases hr
    · unfold box1 at hr
      obtain ⟨h1, h2⟩ := ite_some hr
      obtain ⟨g1, g2, _⟩ := one_cells h1
      exact ⟨_, _, by simp only [dOp, g1, g2, cond_true], h2⟩
    · cases hr
  | build ty parts =>
    intro r hr
    simp only [gOp] at hr
    split at hr
    · rename_i z hz
      obtain ⟨h1, hr1⟩ := iteB_some hr
      split at hr1
      · rename_i fields hu
        split at hr1
        · rename_i places hpl
          obtain ⟨cs', e1, e2⟩ := fill_goes (place := fun i => (places.map fun p => (p.1, p.2.1))[i]?) (by
            intro i off n a hi
            simp only [List.getElem?_map, hi, Option.map_some]) _ _ r hr1
          exact ⟨_, _, by simp only [dOp, dBuild, hz, h1, hu, places_some hpl, Option.bind_some, cond_true, e1, Option.map_some]; rfl, e2⟩
        · cases hr1
      · rename_i len t hu
        split at hr1
        · rename_i n a hn ha
          obtain ⟨cs', e1, e2⟩ := fill_goes (place := fun i => some (i * n, n)) (by
            intro i off m a hi
            cases hi
            rfl) _ _ r hr1
          exact ⟨_, _, by simp only [dOp, dBuild, hz, h1, hu, hn, Option.bind_some, cond_true, e1, Option.map_some]; rfl, e2⟩
        · cases hr1
      · cases hr1
    · cases hr
  | buildSlice ty len parts =>
    intro r hr
    simp only [gOp] at hr
    split at hr
    · rename_i t hu
      split at hr
      · rename_i s a hs ha
        obtain ⟨h1, hr1⟩ := iteB_some hr
        split at hr1
        · rename_i z hz
          obtain ⟨cs', e1, e2⟩ := fill_goes (place := fun i => some (i * s, s)) (by
            intro i off m a hi
            cases hi
            rfl) _ _ r hr1
          exact ⟨_, _, by simp only [dOp, dBuildSlice, hu, hs, h1, hz, Option.bind_some, cond_true, e1, Option.map_some], e2⟩
        · cases hr1
      · cases hr
    · cases hr
  | load ty a => exact load_goes rfl
  | store ty a x => exact store_goes rfl
  | nilCheck x =>
    intro r hr
    simp only [gOp, nilV] at hr
    split at hr
    · rename_i a hx; exact ⟨_, _, by simp only [dOp, hx], hr⟩
    · rename_i f a b hx; exact ⟨_, _, by simp only [dOp, hx], hr⟩
    · cases hr
  | binOp op xt x y yt =>
    simp only [gOp, dOp]
    split
    · exact int_goes
    · exact str_goes
    · rename_i t hu
      split
      · rename_i s _ hs; exact ref_goes (fun b hb => eqPtr_spec hu hs b hb) false
      · rename_i s _ hs; exact ref_goes (fun b hb => eqPtr_spec hu hs b hb) true
      · exact goes_none
    · rename_i t hu
      split
      · exact ref_goes (fun b hb => eqSl_spec hu b hb) false
      · exact ref_goes (fun b hb => eqSl_spec hu b hb) true
      · exact goes_none
    · rename_i t u hu
      split
      · exact ref_goes (fun b hb => eqMap_spec hu b hb) false
      · exact ref_goes (fun b hb => eqMap_spec hu b hb) true
      · exact goes_none
    · rename_i hu
      split
      · exact ref_goes (fun b hb => eqFn_spec hu b hb) false
      · exact ref_goes (fun b hb => eqFn_spec hu b hb) true
      · exact goes_none
    · intro r hr
      unfold binV at hr
      cases hc : (isAggV (ev t x) && !E.eqs.contains xt)
      · rw [hc, cond_false] at hr
        rw [cond_false]
        exact goes_bind r hr
      · rw [hc] at hr; cases hr
  | unOp op ty x => exact goes_bind
  | convert s d x => exact conv_goes
  | makeFunc fn a b =>
    cases fn with
    | func f => exact fun r hr => ⟨_, _, rfl, hr⟩
    | _ => exact goes_none
  | makeMap ty r => cases r with
    | none => exact fun r hr => ⟨_, _, rfl, hr⟩
    | some x => exact goes_none
  | makeSlice ty l c => exact mks_goes
  | slice ty x lo hi mx => exact slice_goes
  | fieldAddr s x f => exact faddr_goes
  | field s x f => exact field_goes
  | indexAddr ty x ix => exact iaddr_goes
  | index ty x ix => exact index_goes
  | lookup ty x ix ok => exact goes_bind
  | mapUpdate ty m k x => exact goes_skip
  | insert ty m k x => exact goes_skip
  | extract x i => exact extract_goes
  | range ty x => exact goes_bindVH
  | entry x => exact goes_bind
  | call c =>
    simp only [gOp, dOp, dCall]
    cases c.callee with
    | builtin b => exact builtin_goes
    | invoke a b => exact goes_none
    | value g => exact call_goes rfl
  | _ => exact goes_none

/-! ### Regions -/
def gStep (E : Env) (call : CallF) (ops : Array Oper) (o : Oper) (f : Fs) (h : Heap) (K : V → Heap → Option R) : Option R :=
  match o.guard with
  | none => gOp E call (evF f) o.op h K
  | some (j, want) => match (ops[j]?).bind (·.dst) with
    | none => none
    | some d => iteB (effB E o.op) (gdE (f d) want (gOp E call (evF f) o.op h fun v h => some (v, h)) h K) (gdP (f d) want (gOp E call (evF f) o.op h fun v _ => some v) fun v => K v h)

theorem gStep_goes (call : CallF) (ops : Array Oper) (o : Oper) (t : Tm) : Goes (gStep E call ops o t.get h K) (dStep E call ops o ⟨t, h⟩) K := by
  intro r hr
  simp only [gStep, evF_eq] at hr
  unfold dStep wantedV
  split at hr
  · rename_i hg
    obtain ⟨v, h', e1, e2⟩ := gOp_goes call o.op t r hr
    exact ⟨v, h', by rw [hg]; exact e1, e2⟩
  · rename_i j want hg
    split at hr
    · cases hr
    · rename_i d hd
      rw [hg]
      simp only [hd, Option.bind_some]
      cases he : effB E o.op
      · simp only [he] at hr
        unfold gdP at hr
        obtain ⟨v, h1, h2⟩ := bnd_some hr
        unfold gdV at h1
        split at h1
        · rename_i b hv
          simp only [hv]
          cases hb : (b == want)
          · rw [hb, cond_false] at h1; cases h1
            exact ⟨_, _, by simp only [Option.bind_some, cond_false], h2⟩
          · rw [hb, cond_true] at h1
            obtain ⟨v', h', e1, e2⟩ := gOp_goes call o.op t _ h1
            cases e2
            have := quiet_heap he e1
            simp only at this
            subst this
            exact ⟨_, _, by simp only [Option.bind_some, cond_true]; exact e1, h2⟩
        · rename_i vs hv
          cases h1
          exact ⟨_, _, by simp only [hv, Option.bind_some, cond_false], h2⟩
        · cases h1
      · simp only [he] at hr
        unfold gdE at hr
        obtain ⟨p, h1, h2⟩ := bnd_some hr
        unfold gdV at h1
        split at h1
        · rename_i b hv
          simp only [hv]
          cases hb : (b == want)
          · rw [hb, cond_false] at h1; cases h1
            exact ⟨_, _, by simp only [Option.bind_some, cond_false], h2⟩
          · rw [hb, cond_true] at h1
            obtain ⟨v', h', e1, e2⟩ := gOp_goes call o.op t _ h1
            cases e2
            exact ⟨_, _, by simp only [Option.bind_some, cond_true]; exact e1, h2⟩
        · rename_i vs hv
          cases h1
          exact ⟨_, _, by simp only [hv, Option.bind_some, cond_false], h2⟩
        · cases h1

def kOps (E : Env) (call : CallF) (n : Nat) (ops : Array Oper) : List Oper → Fs → Heap → (Fs → Heap → Option R) → Option R
  | [], f, h, K => K f h
  | o :: rest, f, h, K => gStep E call ops o f h fun v h => kOps E call n ops rest (putF n f o.dst v) h K

theorem kOps_goes (call : CallF) (n : Nat) (ops : Array Oper) : ∀ (l : List Oper) (t : Tm) (h : Heap) (K : Fs → Heap → Option R) (r : R), kOps E call n ops l t.get h K = some r → ∃ s, dOps E call n ops l ⟨t, h⟩ = some s ∧ K s.t.get s.h = some r
  | [], t, h, K, r, hr => ⟨⟨t, h⟩, rfl, hr⟩
  | o :: rest, t, h, K, r, hr => by
    simp only [kOps] at hr
    obtain ⟨v, h', e1, e2⟩ := gStep_goes call ops o t r hr
    simp only [putF_eq] at e2
    obtain ⟨s, e3, e4⟩ := kOps_goes call n ops rest _ _ _ _ e2
    exact ⟨s, by simp only [dOps, e1, Option.bind_some]; exact e3, e4⟩

/-- Is what an operation yields the same? -/
def sameO (x : Option V) (v : V) : Bool := match x with | some r => V.same r v | none => false

def kPass1 (E : Env) (call : CallF) (n : Nat) (ops : Array Oper) : List Oper → Fs → Heap → (List (Fs × V) → List Heap → Fs → Heap → Option R) → Option R
  | [], f, h, K => K [] [h] f h
  | o :: rest, f, h, K => gStep E call ops o f h fun v h' => kPass1 E call n ops rest (putF n f o.dst v) h' fun rs hs f' h'' => K ((f, v) :: rs) (bif effB E o.op then h :: hs else hs) f' h''

theorem kPass1_goes (call : CallF) (n : Nat) (ops : Array Oper) : ∀ (l : List Oper) (t : Tm) (h : Heap) (K : List (Fs × V) → List Heap → Fs → Heap → Option R) (r : R),
    kPass1 E call n ops l t.get h K = some r → ∃ x, pass1 E call n ops l ⟨t, h⟩ = some x ∧ K (x.1.map fun y => (y.1.get, y.2)) x.2.1 x.2.2.t.get x.2.2.h = some r
  | [], t, h, K, r, hr => ⟨_, rfl, hr⟩
  | o :: rest, t, h, K, r, hr => by
    simp only [kPass1] at hr
    obtain ⟨v, h', e1, e2⟩ := gStep_goes call ops o t r hr
    simp only [putF_eq] at e2
    obtain ⟨x, e3, e4⟩ := kPass1_goes call n ops rest _ _ _ _ e2
    exact ⟨((t, v) :: x.1, (bif effB E o.op then h :: x.2.1 else x.2.1), x.2.2), by simp only [pass1, e1, Option.bind_some, e3, Option.map_some], e4⟩

def kSteady (E : Env) (call : CallF) (ops : Array Oper) (o : Oper) (f : Fs) (v : V) (snaps : List Heap) (lo hi : Nat) : Bool :=
  ((snaps.take (hi + 1)).drop lo).all fun h => sameO (gStep E call ops o f h fun v _ => some v) v

theorem kSteady_goes (call : CallF) (ops : Array Oper) (o : Oper) (t : Tm) (v : V) (snaps : List Heap) (lo hi : Nat) (hk : kSteady E call ops o t.get v snaps lo hi = true) : steady E call ops o t v snaps lo hi = true := by
  unfold kSteady at hk
  unfold steady
  rw [List.all_eq_true] at hk ⊢
  intro h hm
  have := hk h hm
  unfold sameO at this
  split at this
  · rename_i r hr
    obtain ⟨v', h', e1, e2⟩ := gStep_goes call ops o t r hr
    cases e2
    rw [e1]
    exact this
  · cases this

def kPass2 (E : Env) (call : CallF) (ops : Array Oper) (ms : List Nat) (effs : List Nat) (m : Nat) (snaps : List Heap) : List Oper → List (Fs × V) → Nat → Bool
  | [], [], _ => true
  | o :: os, (f, v) :: rs, i =>
    (effB E o.op || stillB o.op || kSteady E call ops o f v snaps (countB effs fun j => (ms.getD i 0).testBit j) (m - countB effs fun j => (ms.getD j 0).testBit i)) && kPass2 E call ops ms effs m snaps os rs (i + 1)
  | _, _, _ => false

theorem kPass2_goes (call : CallF) (ops : Array Oper) (ms : List Nat) (effs : List Nat) (m : Nat) (snaps : List Heap) : ∀ (l : List Oper) (rs : List (Tm × V)) (i : Nat),
    kPass2 E call ops ms effs m snaps l (rs.map fun y => (y.1.get, y.2)) i = true → pass2 E call ops ms effs m snaps l rs i = true
  | [], [], _, _ => rfl
  | [], _ :: _, _, h => by cases h
  | _ :: _, [], _, h => by cases h
  | o :: os, (t, v) :: rs, i, h => by
    simp only [List.map_cons, kPass2, pass2, Bool.and_eq_true, Bool.or_eq_true] at h ⊢
    refine ⟨?_, kPass2_goes call ops ms effs m snaps os rs (i + 1) h.2⟩
    rcases h.1 with h1 | h1
    · exact .inl h1
    · exact .inr (kSteady_goes call ops o t v _ _ _ h1)

def kDraw (E : Env) (call : CallF) (n : Nat) (ops : Array Oper) (f : Fs) (h : Heap) (K : Fs → Heap → Option R) : Option R :=
  iteB (calm E ops.toList) (kOps E call n ops ops.toList f h K) <|
  kPass1 E call n ops ops.toList f h fun rs snaps f' h' =>
    match snaps with
    | [_] => K f' h'
    | snaps => bif kPass2 E call ops (masks ops.toList []) (effIdx E ops.toList) (effIdx E ops.toList).length snaps ops.toList rs 0 then K f' h' else none

theorem kDraw_goes (call : CallF) (n : Nat) (ops : Array Oper) (t : Tm) (h : Heap) (K : Fs → Heap → Option R) (r : R) (hr : kDraw E call n ops t.get h K = some r) : ∃ s, dDraw E call n ops ⟨t, h⟩ = some s ∧ K s.t.get s.h = some r := by
  unfold kDraw at hr
  cases hc : calm E ops.toList
  · simp only [hc] at hr
    obtain ⟨x, e1, e2⟩ := kPass1_goes call n ops _ _ _ _ _ hr
    unfold dDraw
    rw [e1, Option.bind_some]
    split at e2
    · rename_i hs
      exact ⟨x.2.2, by rw [hs], e2⟩
    · rename_i hs
      obtain ⟨e3, e4⟩ := ite_some e2
      refine ⟨x.2.2, ?_, e4⟩
      have e5 := kPass2_goes call ops _ _ _ _ _ _ _ e3
      split
      · rfl
      · rw [e5]; rfl
  · simp only [hc] at hr
    rw [dDraw_calm E call n ops ⟨t, h⟩ hc]
    exact kOps_goes call n ops _ _ _ _ _ hr

/-- The region's operations in the text's order; the object of operation f is laid where the first operation behind it turns the memory. -/
def kPassL (E : Env) (call : CallF) (n : Nat) (ops : Array Oper) (ms : List Nat) (fl id : Nat) : List Oper → Nat → Fs → Heap → Option (List V) → Bool → Option (List V × List Heap × Option (List V))
  | [], _, _, h, cs, _ => some ([], [h], cs)
  | o :: rest, i, f, h, cs, mat =>
    bif Nat.beq i fl then
      (gStep E call ops o f ⟨id, .leaf⟩ fun v h2 => some (v, h2)).bind fun r => match r.2.get id with
          | some (.cells cs' .own) => (kPassL E call n ops ms fl id rest (i + 1) (putF n f o.dst r.1) h (some cs') mat).map fun x => (r.1 :: x.1, x.2.1, x.2.2)
          | _ => none
    else
      (gStep E call ops o f (bif (ms.getD i 0).testBit fl && !mat then h.setO id cs else h) fun v h2 => some (v, h2)).bind fun r =>
        bif effB E o.op then (kPassL E call n ops ms fl id rest (i + 1) (putF n f o.dst r.1) r.2 cs (mat || (ms.getD i 0).testBit fl)).map fun x => (r.1 :: x.1, h :: x.2.1, x.2.2)
        else (kPassL E call n ops ms fl id rest (i + 1) (putF n f o.dst r.1) h cs mat).map fun x => (r.1 :: x.1, x.2.1, x.2.2)

theorem stepO_goes {call : CallF} {ops : Array Oper} {o : Oper} {t : Tm} {h : Heap} {r : V × Heap} (hr : gStep E call ops o t.get h (fun v h2 => some (v, h2)) = some r) : dStep E call ops o ⟨t, h⟩ = some r := by
  obtain ⟨v, h', e1, e2⟩ := gStep_goes call ops o t r hr
  cases e2
  exact e1

theorem stepO_made {call : CallF} {ops : Array Oper} {o : Oper} {t : Tm} {id : Nat} {r : V × Heap} {ob : Ob} (hg : r.2.get id = some ob) (hr : gStep E call ops o t.get ⟨id, .leaf⟩ (fun v h2 => some (v, h2)) = some r) : wantedV ops o t = some true ∧ dOp E call o.op t ⟨id, .leaf⟩ = some r := by
  have := stepO_goes hr
  unfold dStep at this
  obtain ⟨w, h1, h2⟩ := bnd_some this
  cases w
  · rw [cond_false] at h2
    cases h2
    cases hg
  · rw [cond_true] at h2
    exact ⟨h1, h2⟩

theorem kPassL_goes (call : CallF) (n : Nat) (ops : Array Oper) (ms : List Nat) (fl id : Nat) : ∀ (l : List Oper) (i : Nat) (t : Tm) (h : Heap) (cs : Option (List V)) (mat : Bool) (x : List V × List Heap × Option (List V)),
    kPassL E call n ops ms fl id l i t.get h cs mat = some x → passL E call n ops ms fl id l i ⟨t, h⟩ cs mat = some x
  | [], i, t, h, cs, mat, x, hx => hx
  | o :: rest, i, t, h, cs, mat, x, hx => by
    simp only [kPassL] at hx
    simp only [passL]
    cases hi : Nat.beq i fl
    · rw [hi, cond_false] at hx
      rw [cond_false]
      obtain ⟨r, h1, h2⟩ := bnd_some hx
      rw [stepO_goes h1, Option.bind_some]
      rw [putF_eq] at h2
      cases he : effB E o.op
      · rw [he, cond_false] at h2
        rw [cond_false]
        obtain ⟨y, h3, rfl⟩ := Option.map_eq_some_iff.1 h2
        rw [kPassL_goes call n ops ms fl id rest _ _ _ _ _ _ h3]; rfl
      · rw [he, cond_true] at h2
        rw [cond_true]
        obtain ⟨y, h3, rfl⟩ := Option.map_eq_some_iff.1 h2
        rw [kPassL_goes call n ops ms fl id rest _ _ _ _ _ _ h3]; rfl
    · rw [hi, cond_true] at hx
      rw [cond_true]
      obtain ⟨r, h1, h2⟩ := bnd_some hx
      split at h2
      · rename_i cs' hg
        have h3 := h2
        obtain ⟨w1, w2⟩ := stepO_made hg h1
        rw [putF_eq] at h3
        obtain ⟨y, h4, rfl⟩ := Option.map_eq_some_iff.1 h3
        rw [w1, Option.bind_some, cond_true, w2, Option.bind_some, hg]
        simp only [kPassL_goes call n ops ms fl id rest _ _ _ _ _ _ h4, Option.map_some]
      · cases h2

def kChkL (E : Env) (call : CallF) (n : Nat) (ops : Array Oper) (ms : List Nat) (fl id k0 m : Nat) (cs : Option (List V)) (snaps : List Heap) (effs : List Nat) : List Oper → Nat → Fs → List V → Nat → Option Fs
  | [], _, f, [], _ => some f
  | o :: rest, i, f, u :: vs, p =>
    bif (bif Nat.beq i fl then
        (match cs with
          | some cs => (match gStep E call ops o f ⟨id, .leaf⟩ fun v h2 => some (v, h2) with
            | some r => V.same r.1 u && (match r.2.get id with | some (.cells cs' .own) => V.sames cs' cs | _ => false)
            | none => false)
          | _ => false)
      else bif effB E o.op then
        ((ms.getD i 0).testBit fl == Nat.ble k0 p) &&
        (match gStep E call ops o f (viewL snaps id k0 cs ((ms.getD i 0).testBit fl) p) fun v h2 => some (v, h2) with
          | some r => V.same r.1 u && Heap.same r.2 (snapAt snaps (p + 1))
          | none => false)
      else
        (List.range (m + 1)).all fun k => bif Nat.ble (countB effs fun j => (ms.getD i 0).testBit j) k && Nat.ble (k + countB effs fun j => (ms.getD j 0).testBit i) m then
          (match gStep E call ops o f (viewL snaps id k0 cs ((ms.getD i 0).testBit fl) k) fun v h2 => some (v, h2) with
            | some r => V.same r.1 u
            | none => false)
          else true)
    then kChkL E call n ops ms fl id k0 m cs snaps effs rest (i + 1) (putF n f o.dst u) vs (bif effB E o.op && !Nat.beq i fl then p + 1 else p) else none
  | _, _, _, _, _ => none

theorem kChk_key {call : CallF} {n : Nat} {ops : Array Oper} {ms : List Nat} {fl id k0 m : Nat} {cs : Option (List V)} {snaps : List Heap} {effs : List Nat} {o : Oper} {i p : Nat} {t : Tm} {u : V} {f : Fs} :
    f = t.get → (bif Nat.beq i fl then
        (match cs with
          | some cs => (match gStep E call ops o f ⟨id, .leaf⟩ fun v h2 => some (v, h2) with
            | some r => V.same r.1 u && (match r.2.get id with | some (.cells cs' .own) => V.sames cs' cs | _ => false)
            | none => false)
          | _ => false)
      else bif effB E o.op then
        ((ms.getD i 0).testBit fl == Nat.ble k0 p) &&
        (match gStep E call ops o f (viewL snaps id k0 cs ((ms.getD i 0).testBit fl) p) fun v h2 => some (v, h2) with
          | some r => V.same r.1 u && Heap.same r.2 (snapAt snaps (p + 1))
          | none => false)
      else
        (List.range (m + 1)).all fun k => bif Nat.ble (countB effs fun j => (ms.getD i 0).testBit j) k && Nat.ble (k + countB effs fun j => (ms.getD j 0).testBit i) m then
          (match gStep E call ops o f (viewL snaps id k0 cs ((ms.getD i 0).testBit fl) k) fun v h2 => some (v, h2) with
            | some r => V.same r.1 u
            | none => false)
          else true) = true → (bif Nat.beq i fl then
        (match wantedV ops o t, cs with
          | some true, some cs => (match dOp E call o.op t ⟨id, .leaf⟩ with
            | some r => V.same r.1 u && (match r.2.get id with | some (.cells cs' .own) => V.sames cs' cs | _ => false)
            | none => false)
          | some false, none => V.same .undef u
          | _, _ => false)
      else bif effB E o.op then
        ((ms.getD i 0).testBit fl == Nat.ble k0 p) &&
        (match dStep E call ops o ⟨t, viewL snaps id k0 cs ((ms.getD i 0).testBit fl) p⟩ with
          | some r => V.same r.1 u && Heap.same r.2 (snapAt snaps (p + 1))
          | none => false)
      else
        (List.range (m + 1)).all fun k => bif Nat.ble (countB effs fun j => (ms.getD i 0).testBit j) k && Nat.ble (k + countB effs fun j => (ms.getD j 0).testBit i) m then
          (match dStep E call ops o ⟨t, viewL snaps id k0 cs ((ms.getD i 0).testBit fl) k⟩ with
            | some r => V.same r.1 u
            | none => false)
          else true) = true := by
  intro hf h1
  subst hf
  cases hi : Nat.beq i fl
  · rw [hi, cond_false] at h1
    rw [cond_false]
    cases he : effB E o.op
    · rw [he, cond_false] at h1
      rw [cond_false]
      rw [List.all_eq_true] at h1 ⊢
      intro k hk
      have h5 := h1 k hk
      generalize (Nat.ble (countB effs fun j => (ms.getD i 0).testBit j) k && Nat.ble (k + countB effs fun j => (ms.getD j 0).testBit i) m) = c at h5 ⊢
      cases c
      · rfl
      · rw [cond_true] at h5 ⊢
        split at h5
        · rename_i r hr
          rw [stepO_goes hr]
          exact h5
        · cases h5
    · rw [he, cond_true] at h1
      rw [cond_true]
      rw [Bool.and_eq_true] at h1 ⊢
      refine ⟨h1.1, ?_⟩
      have h5 := h1.2
      split at h5
      · rename_i r hr
        rw [stepO_goes hr]
        exact h5
      · cases h5
  · rw [hi, cond_true] at h1
    rw [cond_true]
    have h5 := h1
    split at h5
    · rename_i cs'
      split at h5
      · rename_i r hr
        have h6 := h5
        rw [Bool.and_eq_true] at h6
        have h7 := h6.2
        split at h7
        · rename_i cs2 hg
          obtain ⟨w1, w2⟩ := stepO_made hg hr
          rw [w1, w2]
          exact h5
        · cases h7
      · cases h5
    · cases h5

theorem kChkL_goes (call : CallF) (n : Nat) (ops : Array Oper) (ms : List Nat) (fl id k0 m : Nat) (cs : Option (List V)) (snaps : List Heap) (effs : List Nat) : ∀ (l : List Oper) (i : Nat) (t : Tm) (vs : List V) (p : Nat) (f' : Fs),
    kChkL E call n ops ms fl id k0 m cs snaps effs l i t.get vs p = some f' → ∃ t', chkL E call n ops ms fl id k0 m cs snaps effs l i t vs p = some t' ∧ f' = t'.get
  | [], i, t, [], p, f', h => by cases h; exact ⟨t, rfl, rfl⟩
  | [], i, t, _ :: _, p, f', h => by cases h
  | _ :: _, i, t, [], p, f', h => by cases h
  | o :: rest, i, t, u :: vs, p, f', h => by
    simp only [kChkL] at h
    obtain ⟨h1, h2⟩ := ite_some h
    rw [putF_eq] at h2
    obtain ⟨t', h3, h4⟩ := kChkL_goes call n ops ms fl id k0 m cs snaps effs rest _ _ _ _ _ h2
    refine ⟨t', ?_, h4⟩
    simp only [chkL]
    have key := kChk_key (n := n) (ms := ms) rfl h1
    have : ∀ (b : Bool) (x : Option Tm), b = true → (bif b then x else none) = x := by rintro b x rfl; rfl
    exact (this _ _ key).trans h3

/-- A region that draws its order, in which operation f makes an object. -/
def kLate (E : Env) (call : CallF) (n : Nat) (ops : Array Oper) (fl : Nat) (f : Fs) (h : Heap) : Option (Fs × Heap) :=
  let ms := masks ops.toList []
  let effs := effIdxL E ops fl
  let k0 := countB effs fun i => !(ms.getD i 0).testBit fl
  (kPassL E call n ops ms fl h.next ops.toList 0 f { h with next := h.next + 1 } none false).bind fun x =>
    bif Heap.same (snapAt x.2.1 0) { h with next := h.next + 1 } && ((List.range (k0 + 1)).all fun k => ((snapAt x.2.1 k).get h.next).isNone) then
      (kChkL E call n ops ms fl h.next k0 effs.length x.2.2 x.2.1 effs ops.toList 0 f x.1 0).map fun f' => (f', viewL x.2.1 h.next k0 x.2.2 true effs.length)
    else none
def lateK (E : Env) (call : CallF) (n : Nat) (ops : Array Oper) (fl : Nat) (f : Fs) (h : Heap) (K : Fs → Heap → Option R) : Option R := (kLate E call n ops fl f h).bind fun r => K r.1 r.2

theorem kLate_goes (call : CallF) (n : Nat) (ops : Array Oper) (fl : Nat) (t : Tm) (h : Heap) (K : Fs → Heap → Option R) (r : R) (hr : lateK E call n ops fl t.get h K = some r) : ∃ s, dLate E call n ops fl ⟨t, h⟩ = some s ∧ K s.t.get s.h = some r := by
  unfold lateK kLate at hr
  obtain ⟨q, h1, h2⟩ := bnd_some hr
  obtain ⟨x, h3, h4⟩ := bnd_some h1
  obtain ⟨h5, h6⟩ := ite_some h4
  obtain ⟨f', h7, rfl⟩ := Option.map_eq_some_iff.1 h6
  obtain ⟨t', h8, rfl⟩ := kChkL_goes call n ops _ _ _ _ _ _ _ _ _ _ _ _ _ _ h7
  refine ⟨⟨t', _⟩, ?_, h2⟩
  unfold dLate
  simp only [kPassL_goes call n ops _ _ _ _ _ _ _ _ _ _ h3, Option.bind_some, h5, cond_true, h8, Option.map_some]

/-- A region that draws its order, the one way or the other. -/
noncomputable def drawK (E : Env) (call : CallF) (n : Nat) (lo : Option Nat) (ops : Array Oper) (f : Fs) (h : Heap) (K : Fs → Heap → Option R) : Option R :=
  @Option.rec _ (fun _ => Option R) (kDraw E call n ops f h K) (fun fl => lateK E call n ops fl f h K) lo

/-- The operations of a region, by its number. -/
def regOf : Code → Nat → Array Oper
  | .region id ops _, k => bif Nat.beq id k then ops else #[]
  | .seq a b, k => bif (regOf a k).isEmpty then regOf b k else regOf a k
  | .cond _ a b, k => bif (regOf a k).isEmpty then regOf b k else regOf a k
  | .block _ b, k => regOf b k
  | .loop b, k => regOf b k
  | .scope b, k => regOf b k
  | _, _ => #[]

noncomputable def seqK (o : Out) (a b : Option R) : Option R := @Out.rec (fun _ => Option R) a (fun _ => b) b o
noncomputable def blkK (id : Nat) (o : Out) (a b : Option R) : Option R := @Out.rec (fun _ => Option R) b (fun j => @Bool.rec (fun _ => Option R) b a (Nat.beq j id)) b o

/-- So many rounds at most. -/
noncomputable def iterK (g : Bool) (step : (Out → Fs → Heap → Option R) → Fs → Heap → Option R) (K : Out → Fs → Heap → Option R) : Nat → Fs → Heap → Option R
  | 0, _, _ => none
  | k + 1, f, h => @Bool.rec (fun _ => Option R) none (step (fun o f h => @Out.rec (fun _ => Option R) (iterK g step K k f h) (fun _ => K o f h) (K o f h) o) f h) g

/-- The head of a loop over a map: what stands in its first region. -/
def headL : Code → Option (Array Oper × Operand × Option Tmp × List Oper)
  | .seq (.region _ ops false) _ => (headOf ops).map fun y => (ops, y)
  | _ => none

def FitsK (n : Nat) (ds : List Tmp) (f : Fs) (o : Out) (h : Heap) (q : Out × Fs × Heap) : Prop :=
  o = q.1 ∧ (∀ k, k < n → k ∉ ds → q.2.1 k = f k) ∧ h.next = q.2.2.next ∧ ∀ j u, h.get j = some u → q.2.2.get j = some u
noncomputable def fitsK (n : Nat) (ds : List Tmp) (f : Fs) (o : Out) (h : Heap) (q : Out × Fs × Heap) : Bool := @decide (FitsK n ds f o h q) (Classical.propDecidable _)

def havocF (n : Nat) (ds : List Tmp) (f : Fs) : Fs := fun k => bif Nat.blt k n && ds.any (Nat.beq k) then .any else f k

/-- A loop over a map, in every order. -/
noncomputable def mapR (n : Nat) (ds : List Tmp) (x : Fs → V) (bod : V → Fs → Heap → Option (Out × Fs × Heap)) : Nat → Fs → Heap → Option (Out × Fs × Heap)
  | 0, _, _ => none
  | k + 1, f, h => (dNexts (x f) h).bind fun outs => (outs.mapM fun o => (bod o.1 f o.2).bind fun r => @Out.rec (fun _ => Option (Out × Fs × Heap)) (mapR n ds x bod k r.2.1 r.2.2) (fun _ => some r) (some r) r.1).bind fun rs =>
      match rs with
      | [] => none
      | [r] => some r
      | r :: rs => bif (r :: rs).all (fitsK n ds f r.1 (killIt (x f) r.2.2)) then some (r.1, havocF n ds f, killIt (x f) r.2.2) else none
noncomputable def mapK (n : Nat) (ds : List Tmp) (x : Fs → V) (bod : V → Fs → Heap → Option (Out × Fs × Heap)) (K : Out → Fs → Heap → Option R) (lf : Nat) (f : Fs) (h : Heap) : Option R := (mapR n ds x bod lf f h).bind fun r => K r.1 r.2.1 r.2.2

/-- A loop: over a map, or of another kind. -/
noncomputable def loopK (E : Env) (call : CallF) (n : Nat) (hd : Option (Array Oper × Operand × Option Tmp × List Oper)) (ds : List Tmp) (step : (Out → Fs → Heap → Option R) → Fs → Heap → Option R) (rest : Fs → Heap → Option (Out × Fs × Heap))
    (K : Out → Fs → Heap → Option R) (lf : Nat) (f : Fs) (h : Heap) : Option R :=
  @Option.rec _ (fun _ => Option R) (iterK true step K lf f h) (fun y => iteB E.loose none <| mapK n ds (fun f => evF f y.2.1) (fun v f h => kOps E call n y.1 y.2.2.2 (putF n f y.2.2.1 v) h fun f h => rest f h) K lf f h) hd

noncomputable def kCode (E : Env) (call : CallF) (n lf : Nat) {R : Type} : Code → (Out → Fs → Heap → Option R) → Fs → Heap → Option R
  | .skip, K, f, h => K .normal f h
  | .label _, K, f, h => K .normal f h
  | .region _ ops false, K, f, h => kOps E call n ops ops.toList f h (K .normal)
  | .region _ ops true, K, f, h => drawK E call n (lateOf E ops) ops f h (K .normal)
  | .seq a b, K, f, h => kCode E call n lf a (fun o f h => @Out.rec (fun _ => Option R) (kCode E call n lf b K f h) (fun _ => K o f h) (K o f h) o) f h
  | .cond c a b, K, f, h => cndV (evF f c) (kCode E call n lf a K f h) (kCode E call n lf b K f h)
  | .block id b, K, f, h => kCode E call n lf b (fun o f h => @Out.rec (fun _ => Option R) (K o f h) (fun j => @Bool.rec (fun _ => Option R) (K o f h) (K .normal f h) (Nat.beq j id)) (K o f h) o) f h
  | .loop b, K, f, h => loopK E call n (headL b) (dstsOf b) (fun K => kCode E call n lf b K) (match b with | .seq _ r => fun f h => kCode E call n lf (R := Out × Fs × Heap) r (fun o f h => some (o, f, h)) f h | _ => fun _ _ => none) K lf f h
  | .exit id, K, f, h => K (.exit id) f h
  | .ret, K, f, h => K .ret f h
  | _, _, _, _ => none

theorem iterK_goes {step : (Out → Fs → Heap → Option R) → Fs → Heap → Option R} {g : St → Option (Out × St)} (hs : ∀ K t h r, step K (Tm.get t) h = some r → ∃ o t' h', g ⟨t, h⟩ = some (o, ⟨t', h'⟩) ∧ K o t'.get h' = some r) {K : Out → Fs → Heap → Option R} {c : Bool} :
    ∀ (k : Nat) (t : Tm) (h : Heap) (r : R), iterK c step K k t.get h = some r → c = true ∧ ∃ o t' h', iter g k ⟨t, h⟩ = some (o, ⟨t', h'⟩) ∧ K o t'.get h' = some r
  | 0, _, _, _, hr => by cases hr
  | k + 1, t, h, r, hr => by
    simp only [iterK] at hr
    cases c with
    | false => cases hr
    | true =>
    have hr1 := hr
    refine ⟨rfl, ?_⟩
    obtain ⟨o, t', h', e1, e2⟩ := hs _ _ _ _ hr1
    cases o with
    | normal =>
      obtain ⟨_, o, t2, h2, e3, e4⟩ := iterK_goes hs k t' h' r e2
      exact ⟨o, t2, h2, by simp only [iter, e1, Option.bind_some]; exact e3, e4⟩
    | exit id => exact ⟨_, t', h', by simp only [iter, e1, Option.bind_some], e2⟩
    | ret => exact ⟨_, t', h', by simp only [iter, e1, Option.bind_some], e2⟩

def toF (r : Out × St) : Out × Fs × Heap := (r.1, r.2.t.get, r.2.h)

theorem fitsK_spec {n : Nat} {ds : List Tmp} {t : Tm} {o : Out} {h : Heap} {q : Out × St} (hf : fitsK n ds t.get o h (toF q) = true) : fitsB n ds t o h q = true := fitsB_of (@of_decide_eq_true _ (Classical.propDecidable _) hf)

theorem havocF_eq (n : Nat) (ds : List Tmp) (t : Tm) : havocF n ds t.get = (havocT n ds t).get := by
  funext k
  rw [havocT_get]
  unfold havocF
  by_cases hk : k < n
  · rw [show Nat.blt k n = true from Nat.ble_eq_true_of_le hk, Bool.true_and]
    by_cases hd : k ∈ ds
    · rw [if_pos ⟨hk, hd⟩, show ds.any (Nat.beq k) = true from List.any_eq_true.2 ⟨k, hd, Nat.beq_refl k⟩]; rfl
    · rw [if_neg fun h => hd h.2]
      have : ds.any (Nat.beq k) = false := by
        rw [Bool.eq_false_iff]
        intro h
        obtain ⟨d, h1, h2⟩ := List.any_eq_true.1 h
        rw [Nat.eq_of_beq_eq_true h2] at hd
        exact hd h1
      rw [this]; rfl
  · rw [if_neg fun h => hk h.1]
    have : Nat.blt k n = false := by
      rw [Bool.eq_false_iff]
      exact fun h => hk (Nat.le_of_ble_eq_true h)
    rw [this]; rfl

theorem mapM_goes {α β γ : Type} {F : α → Option β} {G : α → Option γ} {q : γ → β} (hp : ∀ a b, F a = some b → ∃ c, G a = some c ∧ b = q c) : ∀ (l : List α) (bs : List β), l.mapM F = some bs → ∃ cs, l.mapM G = some cs ∧ bs = cs.map q
  | [], bs, h => by
    simp at h; subst h; exact ⟨[], rfl, rfl⟩
  | a :: l, bs, h => by
    rw [List.mapM_cons] at h
    obtain ⟨b, h1, h2⟩ := bnd_some h
    obtain ⟨bs', h3, h4⟩ := bnd_some h2
    cases h4
    obtain ⟨c, g1, rfl⟩ := hp a b h1
    obtain ⟨cs, g2, rfl⟩ := mapM_goes hp l bs' h3
    exact ⟨c :: cs, by rw [List.mapM_cons, g1, g2]; rfl, rfl⟩

noncomputable def stepM (E : Env) (call : CallF) (n : Nat) (ops : Array Oper) (os : List Oper) (x : Operand) (dst : Option Tmp) (ds : List Tmp) (body : St → Option (Out × St)) (k : Nat) (t : Tm) (o : V × Heap) : Option (Out × St) :=
  (dOps E call n ops os ⟨putV n t dst o.1, o.2⟩).bind fun s1 => (body s1).bind fun r => match r.1 with | .normal => dMapRounds E call n ops os x dst ds body k r.2 | _ => some r
noncomputable def mergeM (E : Env) (h : Heap) (n : Nat) (x : Operand) (ds : List Tmp) (t : Tm) (rs : List (Out × St)) : Option (Out × St) :=
  match rs with
  | [] => none
  | [r] => some r
  | r :: rs => bif E.loose then
      (bif (r :: rs).all (fitsR n ds t r.1 (killIt (ev t x) r.2.h)) then some (r.1, ⟨havocT n ds t, killIt (ev t x) r.2.h⟩)
      else bif (r :: rs).all (fitsR n ds t r.1 (below h.next (killIt (ev t x) r.2.h))) then some (r.1, ⟨havocT n ds t, below h.next (killIt (ev t x) r.2.h)⟩) else none)
    else bif (r :: rs).all (fitsB n ds t r.1 (killIt (ev t x) r.2.h)) then some (r.1, ⟨havocT n ds t, killIt (ev t x) r.2.h⟩) else none
theorem dMap_succ (E : Env) (call : CallF) (n : Nat) (ops : Array Oper) (os : List Oper) (x : Operand) (dst : Option Tmp) (ds : List Tmp) (body : St → Option (Out × St)) (k : Nat) (t : Tm) (h : Heap) :
    dMapRounds E call n ops os x dst ds body (k + 1) ⟨t, h⟩ = (dNexts (ev t x) h).bind fun outs => (outs.mapM (stepM E call n ops os x dst ds body k t)).bind (mergeM E h n x ds t) := rfl

theorem mapR_goes (hlo : E.loose = false) {call : CallF} {n : Nat} {ops : Array Oper} {os : List Oper} {x : Operand} {dst : Option Tmp} {ds : List Tmp} {rest : Fs → Heap → Option (Out × Fs × Heap)} {body : St → Option (Out × St)}
    (hb : ∀ t h r, rest (Tm.get t) h = some r → ∃ c, body ⟨t, h⟩ = some c ∧ r = toF c) : ∀ (k : Nat) (t : Tm) (h : Heap) (r : Out × Fs × Heap),
    mapR n ds (fun f => evF f x) (fun v f h => kOps E call n ops os (putF n f dst v) h fun f h => rest f h) k t.get h = some r → ∃ c, dMapRounds E call n ops os x dst ds body k ⟨t, h⟩ = some c ∧ r = toF c
  | 0, _, _, _, hr => by cases hr
  | k + 1, t, h, r, hr => by
    simp only [mapR, evF_eq] at hr
    obtain ⟨outs, h1, h2⟩ := bnd_some hr
    obtain ⟨rs, h3, h4⟩ := bnd_some h2
    obtain ⟨cs, h5, rfl⟩ := mapM_goes (q := toF) (G := stepM E call n ops os x dst ds body k t) (by
      intro o b hob
      obtain ⟨r1, e1, e2⟩ := bnd_some hob
      rw [putF_eq] at e1
      obtain ⟨s1, e3, e4⟩ := kOps_goes call n ops os _ _ _ _ e1
      obtain ⟨c, e5, rfl⟩ := hb _ _ _ e4
      obtain ⟨o', s2⟩ := c
      cases o' with
      | normal =>
        obtain ⟨c', e6, e7⟩ := mapR_goes hlo hb k s2.t s2.h b e2
        exact ⟨c', by simp only [stepM, e3, Option.bind_some, e5]; exact e6, e7⟩
      | exit i => cases e2; exact ⟨_, by simp only [stepM, e3, Option.bind_some, e5], rfl⟩
      | ret => cases e2; exact ⟨_, by simp only [stepM, e3, Option.bind_some, e5], rfl⟩) outs rs h3
    cases cs with
    | nil => cases h4
    | cons c cs =>
      cases cs with
      | nil => cases h4; exact ⟨c, by rw [dMap_succ, h1, Option.bind_some, h5]; rfl, rfl⟩
      | cons c2 cs =>
        simp only [List.map_cons] at h4
        obtain ⟨h6, h7⟩ := ite_some h4
        cases h7
        have h8 : (c :: c2 :: cs).all (fitsB n ds t c.1 (killIt (ev t x) c.2.h)) = true := by
          rw [List.all_eq_true] at h6 ⊢
          intro q hq
          have := h6 (toF q) (by rw [← List.map_cons, ← List.map_cons]; exact List.mem_map_of_mem hq)
          exact fitsK_spec this
        refine ⟨(c.1, ⟨havocT n ds t, killIt (ev t x) c.2.h⟩), ?_, ?_⟩
        · rw [dMap_succ, h1, Option.bind_some, h5]
          show (bif E.loose then _ else bif (c :: c2 :: cs).all (fitsB n ds t c.1 (killIt (ev t x) c.2.h)) then _ else none) = _
          rw [hlo, h8]; rfl
        · rw [havocF_eq]; rfl

/-- What is shown of code: what the typed form yields the other one yields. -/
def CGoes (E : Env) (call : CallF) (n lf : Nat) (c : Code) : Prop := ∀ (R : Type) (K : Out → Fs → Heap → Option R) (t : Tm) (h : Heap) (r : R),
    kCode E call n lf c K t.get h = some r → ∃ o t' h', dCode E call n lf c ⟨t, h⟩ = some (o, ⟨t', h'⟩) ∧ K o t'.get h' = some r

theorem kCode_all (call : CallF) (n lf : Nat) : ∀ (c : Code), CGoes E call n lf c ∧ (∀ a b, c = .seq a b → CGoes E call n lf b) := by
  intro c
  induction c with
  | skip => exact ⟨fun R K t h r hr => ⟨_, t, h, rfl, hr⟩, fun _ _ e => by cases e⟩
  | label s => exact ⟨fun R K t h r hr => ⟨_, t, h, rfl, hr⟩, fun _ _ e => by cases e⟩
  | region id ops draw =>
    refine ⟨fun R K t h r hr => ?_, fun _ _ e => by cases e⟩
    cases draw with
    | false =>
      simp only [kCode] at hr
      obtain ⟨s, e1, e2⟩ := kOps_goes call n ops _ _ _ _ _ hr
      exact ⟨_, s.t, s.h, by simp only [dCode, e1, Option.map_some], e2⟩
    | true =>
      simp only [kCode] at hr
      unfold drawK at hr
      cases hl : lateOf E ops with
      | none =>
        rw [hl] at hr
        obtain ⟨s, e1, e2⟩ := kDraw_goes call n ops _ _ _ _ hr
        exact ⟨_, s.t, s.h, by simp only [dCode, dAny, hl, e1, Option.map_some], e2⟩
      | some fl =>
        rw [hl] at hr
        obtain ⟨s, e1, e2⟩ := kLate_goes call n ops fl _ _ _ _ hr
        exact ⟨_, s.t, s.h, by simp only [dCode, dAny, hl, e1, Option.map_some], e2⟩
  | seq a b iha ihb =>
    refine ⟨fun R K t h r hr => ?_, fun _ _ e => by cases e; exact ihb.1⟩
    simp only [kCode] at hr
    obtain ⟨o, t', h', e1, e2⟩ := iha.1 _ _ _ _ _ hr
    cases o with
    | normal =>
      obtain ⟨o, t2, h2, e3, e4⟩ := ihb.1 _ _ _ _ _ e2
      exact ⟨o, t2, h2, by simp only [dCode, e1, Option.bind_some]; exact e3, e4⟩
    | exit id => exact ⟨_, t', h', by simp only [dCode, e1, Option.bind_some], e2⟩
    | ret => exact ⟨_, t', h', by simp only [dCode, e1, Option.bind_some], e2⟩
  | cond x a b iha ihb =>
    refine ⟨fun R K t h r hr => ?_, fun _ _ e => by cases e⟩
    simp only [kCode, evF_eq] at hr
    unfold cndV at hr
    split at hr
    · rename_i c hv
      cases c with
      | true =>
        obtain ⟨o, t', h', e1, e2⟩ := iha.1 _ _ _ _ _ hr
        exact ⟨o, t', h', by simp only [dCode, hv]; exact e1, e2⟩
      | false =>
        obtain ⟨o, t', h', e1, e2⟩ := ihb.1 _ _ _ _ _ hr
        exact ⟨o, t', h', by simp only [dCode, hv]; exact e1, e2⟩
    · cases hr
  | block id b ih =>
    refine ⟨fun R K t h r hr => ?_, fun _ _ e => by cases e⟩
    simp only [kCode] at hr
    obtain ⟨o, t', h', e1, e2⟩ := ih.1 _ _ _ _ _ hr
    cases o with
    | normal => exact ⟨_, t', h', by simp only [dCode, e1, Option.map_some], e2⟩
    | ret => exact ⟨_, t', h', by simp only [dCode, e1, Option.map_some], e2⟩
    | exit j =>
      cases hb : Nat.beq j id
      · simp only [hb] at e2
        exact ⟨_, t', h', by simp only [dCode, e1, Option.map_some, hb, cond_false], e2⟩
      · simp only [hb] at e2
        exact ⟨_, t', h', by simp only [dCode, e1, Option.map_some, hb, cond_true], e2⟩
  | loop b ih =>
    refine ⟨fun R K t h r hr => ?_, fun _ _ e => by cases e⟩
    unfold kCode loopK at hr
    cases hh : headL b with
    | none =>
      rw [hh] at hr
      obtain ⟨_, o, t', h', e1, e2⟩ := iterK_goes (g := dCode E call n lf b) (fun K t h r hr => ih.1 _ K t h r hr) lf t h r hr
      refine ⟨o, t', h', ?_, e2⟩
      conv => lhs; unfold dCode
      split
      · rename_i i ops rest
        simp only [headL, Option.map_eq_none_iff] at hh
        rw [hh]; exact e1
      · exact e1
    | some y =>
      rw [hh] at hr
      unfold headL at hh
      split at hh
      · rename_i i ops rest
        obtain ⟨z, hz, rfl⟩ := Option.map_eq_some_iff.1 hh
        obtain ⟨x, dst, os⟩ := z
        have hlo : E.loose = false := by
          cases hl : E.loose
          · rfl
          · simp only [hl] at hr; cases hr
        simp only [hlo, mapK] at hr
        obtain ⟨q, e1, e2⟩ := bnd_some hr
        have hrest := ih.2 _ _ rfl
        obtain ⟨c, e3, rfl⟩ := mapR_goes hlo (body := dCode E call n lf rest) (fun t h r hr => by
          obtain ⟨o, t', h', g1, g2⟩ := hrest _ _ _ _ _ hr
          cases g2
          exact ⟨_, g1, rfl⟩) lf t h q e1
        obtain ⟨o, t', h'⟩ := c
        refine ⟨o, t', h', ?_, e2⟩
        conv => lhs; unfold dCode
        simp only [hz, Option.map_some, Option.getD_some]
        exact e3
      · cases hh
  | exit id => exact ⟨fun R K t h r hr => ⟨_, t, h, rfl, hr⟩, fun _ _ e => by cases e⟩
  | ret => exact ⟨fun R K t h r hr => ⟨_, t, h, rfl, hr⟩, fun _ _ e => by cases e⟩
  | _ => exact ⟨fun R K t h r hr => by simp [kCode] at hr, fun _ _ e => by cases e⟩

theorem kCode_goes (call : CallF) (n lf : Nat) (c : Code) (K : Out → Fs → Heap → Option R) (t : Tm) (h : Heap) (r : R) (hr : kCode E call n lf c K t.get h = some r) :
    ∃ o t' h', dCode E call n lf c ⟨t, h⟩ = some (o, ⟨t', h'⟩) ∧ K o t'.get h' = some r := (kCode_all call n lf c).1 R K t h r hr

/-- What a function hands back. -/
def kResults (E : Env) (f : Fs) (h : Heap) : List ResultVar → (List V → Option R) → Option R
  | [], K => K []
  | .tmp k :: rs, K => kResults E f h rs fun vs => K (f k :: vs)
  | .cell a ty :: rs, K => kLoad E ty (f a) h fun v => kResults E f h rs fun vs => K (v :: vs)

def tupV : List V → V
  | [v] => v
  | vs => .tup vs

theorem kResults_goes (t : Tm) (h : Heap) : ∀ (rs : List ResultVar) (K : List V → Option R) (r : R), kResults E t.get h rs K = some r → ∃ vs, rs.mapM (dResult E t h) = some vs ∧ K vs = some r
  | [], K, r, hr => ⟨[], rfl, hr⟩
  | .tmp k :: rs, K, r, hr => by
    obtain ⟨vs, e1, e2⟩ := kResults_goes t h rs _ r hr
    exact ⟨t.get k :: vs, by rw [List.mapM_cons, e1]; rfl, e2⟩
  | .cell a ty :: rs, K, r, hr => by
    simp only [kResults] at hr
    obtain ⟨v, h', e1, e2⟩ := load_goes (h := h) (K := fun v h => kResults E t.get h rs fun vs => K (v :: vs)) (p := t.get a) (ty := ty) rfl r hr
    have e3 : dResult E t h (.cell a ty) = some v ∧ h' = h := by
      unfold dResult
      split at e1
      · rename_i i o hp
        simp only [hp]
        cases hd : dLoad E ty i o h with
        | none => rw [hd] at e1; cases e1
        | some u => rw [hd] at e1; cases e1; exact ⟨rfl, rfl⟩
      · cases e1
    obtain ⟨e3, rfl⟩ := e3
    obtain ⟨vs, e4, e5⟩ := kResults_goes t _ rs _ r e2
    exact ⟨v :: vs, by rw [List.mapM_cons, e3, e4]; rfl, e5⟩

def kRet (E : Env) (rs : List ResultVar) : Out → Fs → Heap → Option (V × Heap)
  | .exit _, _, _ => none
  | _, f, h => kResults E f h rs fun vs => some (tupV vs, h)

def argF (args : List V) : Fs := fun k => args.getD k .undef

theorem argF_eq (args : List V) : argF args = (argTm args 0 .leaf).get := by
  funext k
  rw [argTm_get]
  simp only [Nat.zero_le, true_and, Nat.zero_add, Nat.sub_zero, argF]
  by_cases h : k < args.length
  · rw [if_pos h]
  · rw [if_neg h]
    have : args.getD k V.undef = V.undef := by simp [List.getD, List.getElem?_eq_none (Nat.le_of_not_lt h)]
    rw [this]; rfl

/-- Slots that are written, one behind the other. -/
def updL (n : Nat) (f : Fs) : List (Nat × V) → Fs
  | [] => f
  | (d, v) :: l => updL n (putF n f (some d) v) l

def Code.ofFunc (fn : Func) : Code := fn.body.getD .skip

/-- How many rounds are gone at most. -/
def LF : Nat := 1000000

/-- What the typed form of a function yields 'run' yields. -/
theorem run_of {lf k : Nat} {f : FuncId} {args : List V} {h : Heap} {fn : Func} {c : Code} {r : V × Heap} (hs : E.sum f = none) (hf : E.P.funcs[f]? = some fn) (hb : fn.body = some c) (hg : (E.fine.testBit f && Nat.ble args.length fn.ntmps) = true)
    (hr : kCode E (run E lf k) fn.ntmps lf c (kRet E fn.results.toList) (argF args) h = some r) : run E lf (k + 1) false f args h = some r := by
  simp only [run, hs, hf, hb, hg, Option.bind_some, cond_true]
  rw [argF_eq] at hr
  obtain ⟨o, t, h', e1, e2⟩ := kCode_goes _ _ _ c _ _ _ _ hr
  rw [e1, Option.bind_some]
  have key : kResults E t.get h' fn.results.toList (fun vs => some (tupV vs, h')) = some r → (dResults E fn ⟨t, h'⟩).map (fun v => (v, h')) = some r := by
    intro hk
    obtain ⟨vs, e3, e4⟩ := kResults_goes t h' _ _ _ hk
    unfold dResults
    simp only [e3, Option.map_some]
    rw [← e4]
    unfold tupV
    split <;> (split <;> simp_all)
  cases o with
  | exit id => cases e2
  | normal => exact key e2
  | ret => exact key e2

end
end Go.Zs
