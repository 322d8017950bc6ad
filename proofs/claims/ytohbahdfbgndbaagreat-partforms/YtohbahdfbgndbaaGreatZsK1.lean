/- A typed form of 'run' for code without loops over maps and over functions: slots are a function, what comes behind an operation is handed on; whatever it yields 'run' yields. -/
import Derived.Test.YtohbahdfbgndbaaGreatZsY
namespace Go.Zs
open Go

abbrev Fs := Nat → V

def putF (n : Nat) (f : Fs) (dst : Option Tmp) (v : V) : Fs :=
  match dst with
  | some d => bif Nat.blt d n then (fun k => bif Nat.beq k d then v else f k) else f
  | none => f

theorem putF_eq (n : Nat) (t : Tm) (dst : Option Tmp) (v : V) : putF n t.get dst v = (putV n t dst v).get := by
  cases dst with
  | none => rfl
  | some d =>
    simp only [putF, putV]
    cases Nat.blt d n
    · rfl
    · funext k
      simp only [cond_true]
      rw [Tm.get_put]
      by_cases h : k = d
      · rw [if_pos h, T.beq_true h]; rfl
      · rw [if_neg h, T.beq_false h]; rfl

def evF (f : Fs) : Operand → V
  | .tmp k => f k
  | .const v => ofValue v
  | .global _ => .any
  | .func g => .fn g [] []

theorem evF_eq (t : Tm) : evF t.get = ev t := by
  funext x
  cases x <;> rfl

section
variable {R : Type}

/-- A choice that the kernel takes first. -/
abbrev iteB (c : Bool) (a b : Option R) : Option R := match c with | true => a | false => b

/-! What operations do, by the kinds of what they are given. -/
def cndV (c : V) (a b : Option R) : Option R := match c with | .bool c => bif c then a else b | _ => none
def pkK (c a b : V) (K : V → Option R) : Option R := match c with | .bool c => K (bif c then a else b) | _ => none
def gdV (v : V) (want : Bool) (a b : Option R) : Option R := match v with | .bool x => bif x == want then a else b | .tup _ => b | _ => none
def gdP (v : V) (want : Bool) (x : Option V) (K : V → Option R) : Option R := (gdV v want x (some .undef)).bind K
def gdE (v : V) (want : Bool) (x : Option (V × Heap)) (h : Heap) (K : V → Heap → Option R) : Option R := (gdV v want x (some (.undef, h))).bind fun r => K r.1 r.2
def ld1 (p : V) (h : Heap) (K : V → Option R) : Option R := match p with | .ptr (some (i, o)) => (h.cells i).bind fun cs => (cs[o]?).bind K | _ => none
def ldA (n : Nat) (p : V) (h : Heap) (K : V → Option R) : Option R := match p with | .ptr (some (i, o)) => (h.cells i).bind fun cs => bif Nat.ble (o + n) cs.length then K (.agg ((cs.drop o).take n)) else none | _ => none
def st1 (p v : V) (h : Heap) (K : Heap → Option R) : Option R :=
  match p with
  | .ptr (some (i, o)) => match h.get i with
    | some (.cells cs k) => bif k.wr && Nat.blt o cs.length && v.one then K (h.set i (.cells (cs.set o v) k)) else none
    | _ => none
  | _ => none
def stA (n : Nat) (p v : V) (h : Heap) (K : Heap → Option R) : Option R :=
  match p with
  | .ptr (some (i, o)) => match v with
    | .agg vs => match h.get i with
      | some (.cells cs k) => bif k.wr && Nat.ble (o + n) cs.length && Nat.beq vs.length n && vs.all V.one then K (h.set i (.cells (splice cs o vs) k)) else none
      | _ => none
    | _ => none
  | _ => none
def newC (cs : List V) (h : Heap) (K : V → Heap → Option R) : Option R := K (.ptr (some (h.next, 0))) (h.new (.cells cs .own))
def box1 (x : V) (h : Heap) (K : V → Heap → Option R) : Option R := bif x.one then newC [x] h K else none
def boxA (x : V) (h : Heap) (K : V → Heap → Option R) : Option R := match x with | .agg cs => newC cs h K | _ => none
def newS (len s : Nat) (cs : List V) (h : Heap) (K : V → Heap → Option R) : Option R := K (.sl (some (h.next, 0)) len len s true) (h.new (.cells cs .own))
def nilV (x : V) (K : V → Option R) : Option R := match x with | .ptr (some a) => K (.ptr (some a)) | .fn f a b => K (.fn f a b) | _ => none
def fil1 (off : Nat) (v : V) (cs : List V) (K : List V → Option R) : Option R := bif v.one && Nat.blt off cs.length then K (cs.set off v) else none
def filA (off n : Nat) (v : V) (cs : List V) (K : List V → Option R) : Option R := match v with | .agg vs => bif Nat.beq vs.length n && Nat.ble (off + n) cs.length then K (splice cs off vs) else none | _ => none
def fillK (place : Nat → Option (Nat × Nat × Bool)) : List V → List (Nat × V) → (List V → Option R) → Option R
  | cs, [], K => K cs
  | cs, (i, v) :: rest, K => match place i with
    | none => none
    | some (off, n, false) => iteB (Nat.beq n 1) (fil1 off v cs fun cs => fillK place cs rest K) none
    | some (off, n, true) => filA off n v cs fun cs => fillK place cs rest K
def intOp (op : BinOp) (k : IntKind) (a : Int) (k' : IntKind) (b : Int) : Option V :=
  match op with
  | .shl => if b < 0 then none else some (.int k (k.wrap (a * 2 ^ (min b.toNat k.bits))))
  | .shr => if b < 0 then none else some (.int k (a.fdiv (2 ^ (min b.toNat k.bits))))
  | op => if k = k' then dInt op k a b else none
def intK (op : BinOp) (x y : V) (K : V → Option R) : Option R := match x with | .int k a => (match y with | .int k' b => (intOp op k a k' b).bind K | _ => none) | _ => none
def strK (op : BinOp) (x y : V) (K : V → Option R) : Option R := match x with | .str a => (match y with | .str b => (dStr op a b).bind K | _ => none) | _ => none
/-- '==' of what may be nil. -/
def eqPtr (s : Nat) (x y : V) (h : Heap) : Option Bool :=
  match x with
  | .ptr a => match y with
    | .ptr b => match a with
      | none => some b.isNone
      | some (i, o) => match b with
        | none => some false
        | some (j, u) => bif Nat.beq s 0 then none else bif Nat.beq i j then some (Nat.beq o u) else bif live h i && live h j then some false else none
    | _ => none
  | _ => none
def eqSl (x y : V) : Option Bool := match x with | .sl a _ _ _ _ => (match y with | .sl b _ _ _ _ => (match a with | none => some b.isNone | some _ => bif b.isNone then some false else none) | _ => none) | _ => none
def eqMap (x y : V) : Option Bool := match x with | .map a => (match y with | .map b => (match a with | none => some b.isNone | some _ => bif b.isNone then some false else none) | _ => none) | _ => none
def eqFn (x y : V) : Option Bool := match x with | .nilFn => (match y with | .nilFn => some true | .fn _ _ _ => some false | _ => none) | .fn _ _ _ => (match y with | .nilFn => some false | _ => none) | _ => none
def refK (neg : Bool) (x : Option Bool) (K : V → Option R) : Option R := x.bind fun b => K (.bool (b != neg))
def binV (E : Env) (op : BinOp) (xt : TypeId) (x y : V) (h : Heap) (K : V → Option R) : Option R := bif isAggV x && !E.eqs.contains xt then none else (dBin E op xt x y h).bind K
def unK (op : UnOp) (x : V) (K : V → Option R) : Option R := (dUn op x).bind K
def cvI (k : IntKind) (x : V) (K : V → Option R) : Option R := match x with | .int _ n => K (.int k (k.wrap n)) | _ => none
def cvS (x : V) (K : V → Option R) : Option R := match x with | .str s => K (.str s) | _ => none
def cvSB (x : V) (h : Heap) (K : V → Heap → Option R) : Option R :=
  match x with
  | .str s => bif Nat.ble s.length 1073741824 then K (.sl (some (h.next, 0)) s.length s.length 1 false) (h.new (.cells (s.map fun b => .int .u8 b.toNat) .mark)) else none
  | _ => none
def cvBS (x : V) (h : Heap) (K : V → Option R) : Option R :=
  match x with
  | .sl none _ _ _ _ => K (.str [])
  | .sl (some (i, o)) len _ _ _ => (h.cells i).bind fun cs => bif Nat.beq len 0 then K (.str []) else bif Nat.ble (o + len) cs.length then (bytesOfVs ((cs.drop o).take len)).bind fun s => K (.str s) else none
  | _ => none
def newM (h : Heap) (K : V → Heap → Option R) : Option R := K (.map (some h.next)) (h.new (.map [] [] 0))
def bindVH (x : Option (V × Heap)) (K : V → Heap → Option R) : Option R := x.bind fun r => K r.1 r.2
def faK (off : Nat) (v : V) (K : V → Option R) : Option R := match v with | .ptr (some (i, o)) => K (.ptr (some (i, o + off))) | _ => none
def fl1 (off : Nat) (v : V) (K : V → Option R) : Option R := match v with | .agg cs => (cs[off]?).bind K | _ => none
def flA (off n : Nat) (v : V) (K : V → Option R) : Option R := match v with | .agg cs => K (.agg ((cs.drop off).take n)) | _ => none
/-- The place of an element: of a slice, of an array. -/
def iaS (s : Nat) (x ix : V) (K : V → Option R) : Option R := match x with | .sl (some (i, o)) len _ _ _ => (match ix with | .int _ n => (intIn n len).bind fun k => K (.ptr (some (i, o + k * s))) | _ => none) | _ => none
def iaA (len s : Nat) (x ix : V) (K : V → Option R) : Option R := match x with | .ptr (some (i, o)) => (match ix with | .int _ n => (intIn n len).bind fun k => K (.ptr (some (i, o + k * s))) | _ => none) | _ => none
def ixS (x ix : V) (K : V → Option R) : Option R := match x with | .str s => (match ix with | .int _ n => (intIn n s.length).bind fun k => (s[k]?).bind fun b => K (.int .u8 b.toNat) | _ => none) | _ => none
def exK (i : Nat) (x : V) (K : V → Option R) : Option R := match x with | .tup vs => (vs[i]?).bind K | _ => none
/-- A slice of a string, of a slice. -/
def slS (x : V) (lo hi : Option V) (K : V → Option R) : Option R := match x with | .str s => (dBound hi s.length s.length).bind fun b => (dBound lo 0 b).bind fun a => K (.str ((s.drop a).take (b - a))) | _ => none
def slL (s : Nat) (x : V) (lo hi : Option V) (K : V → Option R) : Option R :=
  match x with
  | .sl a len least es ex => match a with
    | none => bif Nat.beq len 0 && Nat.beq least 0 && ex then (dBound hi 0 0).bind fun _ => (dBound lo 0 0).bind fun _ => K (.sl none 0 0 es true) else none
    | some (i, o) => bif Nat.beq es s then (dBound hi len least).bind fun b => (dBound lo 0 b).bind fun a => K (.sl (some (i, o + a * s)) (b - a) (least - a) s ex) else none
  | _ => none
def lenS (x : V) (K : V → Option R) : Option R := match x with | .str s => K (.int .i64 s.length) | _ => none
def lenL (x : V) (K : V → Option R) : Option R := match x with | .sl _ n _ _ _ => K (.int .i64 n) | _ => none
def lenM (x : V) (h : Heap) (K : V → Option R) : Option R := match x with | .map none => K (.int .i64 0) | .map (some i) => (match h.get i with | some (.map es _ _) => K (.int .i64 es.length) | _ => none) | _ => none
/-- 'append' of a slice or of a string. -/
def appL (size : Nat) (s x : V) (h : Heap) (K : V → Heap → Option R) : Option R :=
  match s with
  | .sl a len lo es ex =>
    (dLenOf x).bind fun n => (dFirst size n x h).bind fun new =>
    bif !Nat.ble (len + n) 1073741824 || !Nat.beq new.length (n * size) then none else
    bif Nat.beq n 0 then K (.sl a len lo es ex) h else
    match a with
    | none => bif Nat.beq lo 0 then K (.sl (some (h.next, 0)) n n size false) (h.new (.cells new .own)) else none
    | some (i, o) =>
      bif !Nat.beq es size then none else
      bif Nat.ble (len + n) lo then (dStoreCells i (o + len * size) new h).bind fun h => K (.sl (some (i, o)) (len + n) lo es ex) h
      else (dFirst size len s h).bind fun old =>
        bif ex then K (.sl (some (h.next, 0)) (len + n) (len + n) size false) (h.new (.cells (old ++ new) .own))
        else match h.get i with
          | some (.cells _ k) => bif k.wr && new.all V.one then K (.sl (some (h.next, 0)) (len + n) (len + n) size false) ((h.kill i).new (.cells (old ++ new) k)) else none
          | _ => none
  | _ => none
def mkS (bytes size : Nat) (z : List V) (l c : V) (h : Heap) (K : V → Heap → Option R) : Option R :=
  match l with
  | .int _ (.ofNat l) => match c with
    | .int _ (.ofNat c) => bif Nat.ble l c && Nat.ble (bytes * c) 281474976710656 && Nat.ble c 1073741824 then K (.sl (some (h.next, 0)) l c size true) (h.new (.cells (copies z c) .own)) else none
    | _ => none
  | _ => none
def callV (E : Env) (call : CallF) (g : V) (args : List V) (h : Heap) (K : V → Heap → Option R) : Option R :=
  match g with
  | .fn f first captured => match E.ext f with
    | some e => bindVH (dExt e (first ++ args ++ captured) h) K
    | none => bindVH (call false f (first ++ args ++ captured) h) K
  | .yld i => bindVH (call true i args h) K
  | _ => none

section
variable (E : Env)

def kLoad (ty : TypeId) (p : V) (h : Heap) (K : V → Option R) : Option R :=
  match aggB E ty with
  | some true => (match sizeB E ty with | some n => ldA n p h K | none => none)
  | some false => ld1 p h K
  | none => none

def kPlaces (fields : List Field) : Option (List (Nat × Nat × Bool)) := fields.mapM fun f => (sizeB E f.type).bind fun n => (aggB E f.type).map fun a => (f.offset, n, a)

def kBuiltin (b : Builtin) (ts : Array TypeId) (args : List V) (h : Heap) (K : V → Heap → Option R) : Option R :=
  match b, args with
  | .len, [x] => match (ts[0]?).bind E.P.underlying with
    | some .string => lenS x fun v => K v h
    | some (.slice _) => lenL x fun v => K v h
    | some (.map _ _) => lenM x h fun v => K v h
    | _ => bindVH (dBuiltin E b ts args h) K
  | .append, [s, x] => match (ts[0]?).bind E.P.underlying, (ts[1]?).bind E.P.underlying with
    | some (.slice e), some d => match E.P.info? e, zeroB E e, isIntD d with
      | some info, some z, some false => iteB (!Nat.beq info.size 0 && Nat.ble info.bytes 65536 && z.plain && Nat.beq z.cells.length info.size) (appL info.size s x h K) none
      | _, _, _ => none
    | _, _ => none
  | b, args => bindVH (dBuiltin E b ts args h) K

def gOp (call : CallF) (e : Operand → V) (o : Op) (h : Heap) (K : V → Heap → Option R) : Option R :=
  match o with
  | .move x | .assign x => K (e x) h
  | .pick c a b => pkK (e c) (e a) (e b) fun v => K v h
  | .alloc t => match zeroB E t with
    | some z => iteB z.plain (newC z.cells h K) none
    | none => none
  | .box t x => match aggB E t with
    | some true => boxA (e x) h K
    | some false => box1 (e x) h K
    | none => none
  | .build ty parts => match zeroB E ty with
    | some z => iteB z.plain (match E.P.underlying ty with
      | some (.struct fields) => match kPlaces E fields.toList with
        | some places => fillK (fun i => places[i]?) z.cells (parts.toList.map fun p => (p.1, e p.2)) fun cs => K (.agg cs) h
        | none => none
      | some (.array _ t) => match sizeB E t, aggB E t with
        | some n, some a => fillK (fun i => some (i * n, n, a)) z.cells (parts.toList.map fun p => (p.1, e p.2)) fun cs => K (.agg cs) h
        | _, _ => none
      | _ => none) none
    | none => none
  | .buildSlice ty len parts => match E.P.underlying ty with
    | some (.slice t) => match sizeB E t, aggB E t with
      | some s, some a => iteB (Nat.ble (len * s) 16777216) (match zerosB E t len with
          | some z => fillK (fun i => some (i * s, s, a)) z (parts.toList.map fun p => (p.1, e p.2)) fun cs => newS len s cs h K
          | none => none) none
      | _, _ => none
    | _ => none
  | .load ty a => kLoad E ty (e a) h fun v => K v h
  | .store ty a x => match aggB E ty, sizeB E ty with
    | some true, some n => stA n (e a) (e x) h fun h => K .undef h
    | some false, some n => iteB (Nat.beq n 1) (st1 (e a) (e x) h fun h => K .undef h) none
    | _, _ => none
  | .nilCheck x => nilV (e x) fun v => K v h
  | .binOp op xt x y _ => match E.P.underlying xt with
    | some (.int _) => intK op (e x) (e y) fun v => K v h
    | some .string => strK op (e x) (e y) fun v => K v h
    | some (.pointer t) => match sizeB E t, op with
      | some s, .eql => refK false (eqPtr s (e x) (e y) h) fun v => K v h
      | some s, .neq => refK true (eqPtr s (e x) (e y) h) fun v => K v h
      | _, _ => none
    | some (.slice _) => match op with
      | .eql => refK false (eqSl (e x) (e y)) fun v => K v h
      | .neq => refK true (eqSl (e x) (e y)) fun v => K v h
      | _ => none
    | some (.map _ _) => match op with
      | .eql => refK false (eqMap (e x) (e y)) fun v => K v h
      | .neq => refK true (eqMap (e x) (e y)) fun v => K v h
      | _ => none
    | some (.func _ _ _) => match op with
      | .eql => refK false (eqFn (e x) (e y)) fun v => K v h
      | .neq => refK true (eqFn (e x) (e y)) fun v => K v h
      | _ => none
    | _ => binV E op xt (e x) (e y) h fun v => K v h
  | .unOp op _ x => unK op (e x) fun v => K v h
  | .convert s d x => match E.P.underlying s, E.P.underlying d with
    | some _, some (.int k) => cvI k (e x) fun v => K v h
    | some .string, some .string => cvS (e x) fun v => K v h
    | some .string, some (.slice t) => (match E.P.underlying t with | some (.int .u8) => cvSB (e x) h K | _ => none)
    | some (.slice t), some .string => (match E.P.underlying t with | some (.int .u8) => cvBS (e x) h fun v => K v h | _ => none)
    | _, _ => none
  | .makeFunc (.func f) first captured => K (.fn f (first.toList.map e) (captured.toList.map e)) h
  | .makeMap _ none => newM h K
  | .makeSlice ty l c => match E.P.underlying ty with
    | some (.slice t) => match E.P.info? t, zeroB E t with
      | some i, some z => iteB (!Nat.beq i.size 0 && z.plain && Nat.beq z.cells.length i.size) (mkS i.bytes i.size z.cells (e l) (e c) h K) none
      | _, _ => none
    | _ => none
  | .slice ty x lo hi mx => match mx.map e, E.P.underlying ty with
    | none, some .string => slS (e x) (lo.map e) (hi.map e) fun v => K v h
    | none, some (.slice t) => (match sizeB E t with | some s => slL s (e x) (lo.map e) (hi.map e) fun v => K v h | none => none)
    | _, _ => (dSlice E ty (e x) (lo.map e) (hi.map e) (mx.map e) h).bind fun v => K v h
  | .fieldAddr s x f => match E.P.underlying s with
    | some (.struct fields) => match fields[f]? with
      | some x' => match sizeB E x'.type with
        | some n => iteB (Nat.beq n 0) none (faK x'.offset (e x) fun v => K v h)
        | none => none
      | none => none
    | _ => none
  | .field s x f => match E.P.underlying s with
    | some (.struct fields) => match fields[f]? with
      | some x' => match aggB E x'.type, sizeB E x'.type with
        | some true, some n => flA x'.offset n (e x) fun v => K v h
        | some false, _ => fl1 x'.offset (e x) fun v => K v h
        | _, _ => none
      | none => none
    | _ => none
  | .indexAddr ty x ix => match E.P.underlying ty with
    | some (.slice t) => (match sizeB E t with | some s => iaS s (e x) (e ix) fun v => K v h | none => none)
    | some (.array len t) => (match sizeB E t with | some s => iaA len s (e x) (e ix) fun v => K v h | none => none)
    | _ => none
  | .index ty x ix => match E.P.underlying ty with
    | some .string => ixS (e x) (e ix) fun v => K v h
    | _ => (dIndex E ty (e x) (e ix)).bind fun v => K v h
  | .lookup ty x ix ok => (dLookup E ty (e x) (e ix) ok h).bind fun v => K v h
  | .mapUpdate ty m k x | .insert ty m k x => (dMapUpdate E ty (e m) (e k) (e x) h).bind fun h => K .undef h
  | .extract x i => exK i (e x) fun v => K v h
  | .range ty x => bindVH (dRange E ty (e x) h) K
  | .entry x => (dEntry (e x) h).bind fun v => K v h
  | .call c => match c.callee with
    | .builtin b => kBuiltin E b c.argTypes (c.args.toList.map e) h K
    | .value g => callV E call (e g) (c.args.toList.map e) h K
    | .invoke _ _ => none
  | _ => none

end

/-- One step of the one form stands for one of the other. -/
def Goes (x : Option R) (y : Option (V × Heap)) (K : V → Heap → Option R) : Prop := ∀ r, x = some r → ∃ v h, y = some (v, h) ∧ K v h = some r

theorem goes_bindVH {x : Option (V × Heap)} {K : V → Heap → Option R} : Goes (bindVH x K) x K := by
  intro r h
  cases x with
  | none => cases h
  | some p => exact ⟨p.1, p.2, rfl, h⟩

theorem goes_bind {x : Option V} {h : Heap} {K : V → Heap → Option R} : Goes (x.bind fun v => K v h) (keep h x) K := by
  intro r hr
  cases x with
  | none => cases hr
  | some v => exact ⟨v, h, rfl, hr⟩

theorem goes_skip {x : Option Heap} {K : V → Heap → Option R} : Goes (x.bind fun h => K .undef h) (asSkip x) K := by
  intro r hr
  cases x with
  | none => cases hr
  | some v => exact ⟨_, v, rfl, hr⟩

theorem goes_none {y : Option (V × Heap)} {K : V → Heap → Option R} : Goes (none : Option R) y K := fun _ h => by cases h

end
end Go.Zs
