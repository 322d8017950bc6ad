/- A sound evaluator for the model's programs, first part: values without addresses, a memory of objects, what each operation does. -/
import Derived.Orders
import Derived.OrdersIn
import Derived.LoopNIn
import Derived.RangeFuncRecord
import Derived.Laws.Sem
import Derived.LoopN
import Derived.Scope
import Derived.Below
import Derived.Laws.World
namespace Go.Zs
open Go

/-- A tree of places by numbers. -/
inductive T (α : Type) where
  | leaf
  | node (v : Option α) (l r : T α)

namespace T
variable {α : Type}

def get : T α → Nat → Option α
  | .leaf, _ => none
  | .node v l r, n => bif Nat.beq n 0 then v else bif Nat.beq (n % 2) 1 then l.get (n / 2) else r.get (n / 2 - 1)

def set : Nat → T α → Nat → Option α → T α
  | 0, t, _, _ => t
  | f + 1, .leaf, n, v => bif Nat.beq n 0 then .node v .leaf .leaf else bif Nat.beq (n % 2) 1 then .node none (set f .leaf (n / 2) v) .leaf else .node none .leaf (set f .leaf (n / 2 - 1) v)
  | f + 1, .node u l r, n, v => bif Nat.beq n 0 then .node v l r else bif Nat.beq (n % 2) 1 then .node u (set f l (n / 2) v) r else .node u l (set f r (n / 2 - 1) v)

def put (t : T α) (n : Nat) (v : Option α) : T α := set (n + 1) t n v

theorem beq_false {n m : Nat} (h : n ≠ m) : Nat.beq n m = false := by
  cases hb : Nat.beq n m
  · rfl
  · exact absurd (Nat.eq_of_beq_eq_true hb) h

theorem beq_true {n m : Nat} (h : n = m) : Nat.beq n m = true := by subst h; exact Nat.beq_refl n

theorem get_leaf (n : Nat) : (T.leaf : T α).get n = none := rfl

theorem get_node (v : Option α) (l r : T α) (n : Nat) : (T.node v l r).get n = if n = 0 then v else if n % 2 = 1 then l.get (n / 2) else r.get (n / 2 - 1) := by
  simp only [get]
  by_cases h : n = 0
  · rw [beq_true h, if_pos h]; rfl
  · rw [beq_false h, if_neg h]
    by_cases h1 : n % 2 = 1
    · rw [beq_true h1, if_pos h1]; rfl
    · rw [beq_false h1, if_neg h1]; rfl

theorem get_set : ∀ (f : Nat) (t : T α) (n : Nat) (v : Option α) (m : Nat), n < f → (set f t n v).get m = if m = n then v else t.get m
  | 0, _, _, _, _, h => by omega
  | f + 1, .leaf, n, v, m, h => by
    simp only [set]
    by_cases h0 : n = 0
    · rw [beq_true h0]; subst h0
      show (T.node v .leaf .leaf).get m = _
      rw [get_node]
      by_cases hm : m = 0
      · rw [if_pos hm, if_pos hm]
      · rw [if_neg hm, if_neg hm]; simp [get]
    · rw [beq_false h0]
      by_cases h1 : n % 2 = 1
      · rw [beq_true h1]
        show (T.node none (set f .leaf (n / 2) v) .leaf).get m = _
        rw [get_node]
        by_cases hm : m = 0
        · rw [if_pos hm, if_neg (by omega)]; rfl
        · rw [if_neg hm]
          by_cases hm1 : m % 2 = 1
          · rw [if_pos hm1, get_set f _ _ _ _ (by omega)]
            by_cases he : m = n
            · rw [if_pos (by omega), if_pos he]
            · rw [if_neg (by omega), if_neg he]; rfl
          · rw [if_neg hm1, if_neg (by omega)]; rfl
      · rw [beq_false h1]
        show (T.node none .leaf (set f .leaf (n / 2 - 1) v)).get m = _
        rw [get_node]
        by_cases hm : m = 0
        · rw [if_pos hm, if_neg (by omega)]; rfl
        · rw [if_neg hm]
          by_cases hm1 : m % 2 = 1
          · rw [if_pos hm1, if_neg (by omega)]; rfl
          · rw [if_neg hm1, get_set f _ _ _ _ (by omega)]
            by_cases he : m = n
            · rw [if_pos (by omega), if_pos he]
            · rw [if_neg (by omega), if_neg he]; rfl
  | f + 1, .node u l r, n, v, m, h => by
    simp only [set]
    by_cases h0 : n = 0
    · rw [beq_true h0]; subst h0
      show (T.node v l r).get m = _
      rw [get_node, get_node]
      by_cases hm : m = 0
      · rw [if_pos hm, if_pos hm]
      · rw [if_neg hm, if_neg hm, if_neg hm]
    · rw [beq_false h0]
      by_cases h1 : n % 2 = 1
      · rw [beq_true h1]
        show (T.node u (set f l (n / 2) v) r).get m = _
        rw [get_node, get_node]
        by_cases hm : m = 0
        · rw [if_pos hm, if_neg (by omega), if_pos hm]
        · rw [if_neg hm, if_neg hm]
          by_cases hm1 : m % 2 = 1
          · rw [if_pos hm1, if_pos hm1, get_set f _ _ _ _ (by omega)]
            by_cases he : m = n
            · rw [if_pos (by omega), if_pos he]
            · rw [if_neg (by omega), if_neg he]
          · rw [if_neg hm1, if_neg hm1, if_neg (by omega)]
      · rw [beq_false h1]
        show (T.node u l (set f r (n / 2 - 1) v)).get m = _
        rw [get_node, get_node]
        by_cases hm : m = 0
        · rw [if_pos hm, if_neg (by omega), if_pos hm]
        · rw [if_neg hm, if_neg hm]
          by_cases hm1 : m % 2 = 1
          · rw [if_pos hm1, if_pos hm1, if_neg (by omega)]
          · rw [if_neg hm1, if_neg hm1, get_set f _ _ _ _ (by omega)]
            by_cases he : m = n
            · rw [if_pos (by omega), if_pos he]
            · rw [if_neg (by omega), if_neg he]

theorem get_put (t : T α) (n : Nat) (v : Option α) (m : Nat) : (t.put n v).get m = if m = n then v else t.get m := get_set _ _ _ _ _ (Nat.lt_succ_self n)
theorem get_put_same (t : T α) (n : Nat) (v : Option α) : (t.put n v).get n = v := by rw [get_put, if_pos rfl]
theorem get_put_ne (t : T α) {n m : Nat} (v : Option α) (h : m ≠ n) : (t.put n v).get m = t.get m := by rw [get_put, if_neg h]
end T

/-- Values: a pointer names an object and a place in it; a slice besides its length, a least capacity, how many cells an element has, whether the least capacity is the capacity; 'any' is whatever value. -/
inductive V where
  | any
  | bool (b : Bool)
  | int (k : IntKind) (n : Int)
  | str (s : List UInt8)
  | ptr (a : Option (Nat × Nat))
  | sl (a : Option (Nat × Nat)) (len lo es : Nat) (ex : Bool)
  | map (r : Option Nat)
  | fn (f : FuncId) (first captured : List V)
  | nilFn
  | yld (i : Nat)
  | agg (cs : List V)
  | tup (vs : List V)
  deriving Inhabited

/-- Whose cells: an argument's (not to be written); the call's own; the call's own, made out of a string. -/
inductive Kd where
  | ro | own | mark
  deriving DecidableEq

def Kd.wr : Kd → Bool
  | .ro => false
  | _ => true

inductive Out where
  | normal
  | exit (id : Nat)
  | ret

def Out.code : Out → Option Code
  | .normal => none
  | .exit id => some (.exit id)
  | .ret => some .ret

/-- The state of a loop over a function. -/
inductive LSt where
  | ready | busy | done

def LSt.st : LSt → LoopState
  | .ready => .ready
  | .busy => .busy
  | .done => .done

/-- Objects: cells; a map's entries, the stamps of these, the next stamp; an iterator over a map. -/
inductive Ob where
  | cells (cs : List V) (k : Kd)
  | map (es : List (V × V)) (bs : List Nat) (cl : Nat)
  | iter (m : Option Nat) (since : Nat) (seen : List Nat) (last : Nat)
  | loop (st : LSt) (pend : Out) (n : Nat) (t : T V) (ps : List Nat) (assign body : Code)

structure Heap where
  next : Nat
  objs : T Ob

namespace Heap
def get (h : Heap) (i : Nat) : Option Ob := h.objs.get i
def set (h : Heap) (i : Nat) (o : Ob) : Heap := { h with objs := h.objs.put i (some o) }
def kill (h : Heap) (i : Nat) : Heap := { h with objs := h.objs.put i none }
def new (h : Heap) (o : Ob) : Heap := { next := h.next + 1, objs := h.objs.put h.next (some o) }
def cells (h : Heap) (i : Nat) : Option (List V) := match h.get i with | some (.cells cs _) => some cs | _ => none

theorem get_set (h : Heap) (i : Nat) (o : Ob) (j : Nat) : (h.set i o).get j = if j = i then some o else h.get j := T.get_put _ _ _ _
theorem get_kill (h : Heap) (i j : Nat) : (h.kill i).get j = if j = i then none else h.get j := T.get_put _ _ _ _
theorem get_new (h : Heap) (o : Ob) (j : Nat) : (h.new o).get j = if j = h.next then some o else h.get j := T.get_put _ _ _ _
end Heap

/-- Where an object lies in the model's memory: its block, its first cell, how many cells are its own. -/
structure Pl where
  blk : Nat
  base : Nat
  ext : Nat

abbrev Emb := Nat → Option Pl

mutual
/-- A value stands for a value of the model. -/
inductive VR (ι : Emb) : V → Value → Prop
  | any (v : Value) : VR ι .any v
  | bool (b : Bool) : VR ι (.bool b) (.bool b)
  | int (k : IntKind) (n : Int) : VR ι (.int k n) (.int k n)
  | str (s : ByteArray) : VR ι (.str s.data.toList) (.string s)
  | ptrN : VR ι (.ptr none) (.pointer none)
  | ptr {i o : Nat} {p : Pl} (h : ι i = some p) : VR ι (.ptr (some (i, o))) (.pointer (some ⟨p.blk, p.base + o, none⟩))
  | slN (es : Nat) : VR ι (.sl none 0 0 es true) (.slice none 0 0)
  | sl {i o len lo es off c : Nat} {ex : Bool} {p : Pl} (h : ι i = some p) (h1 : len ≤ lo) (h2 : lo ≤ c) (h3 : ex = true → c = lo) (h4 : 0 < lo → off = p.base + o) (h5 : p.base ≤ off)
      (h6 : off + c * es ≤ p.base + p.ext) : VR ι (.sl (some (i, o)) len lo es ex) (.slice (some ⟨p.blk, off, none⟩) len c)
  | mapN : VR ι (.map none) (.map none)
  | map {i : Nat} {p : Pl} (h : ι i = some p) : VR ι (.map (some i)) (.map (some p.blk))
  | fn (f : FuncId) {first captured : List V} {first' captured' : Array Value} (h1 : VRs ι first first'.toList) (h2 : VRs ι captured captured'.toList) :
      VR ι (.fn f first captured) (.func (.func f) first' captured')
  | nilFn : VR ι .nilFn .nilFunc
  | yld {i : Nat} {p : Pl} (h : ι i = some p) : VR ι (.yld i) (.func (.yield p.blk) #[] #[])
  | agg {cs : List V} {cs' : Array Value} (h : VRs ι cs cs'.toList) : VR ι (.agg cs) (.agg cs')
  | tup {cs : List V} {cs' : Array Value} (h : VRs ι cs cs'.toList) : VR ι (.tup cs) (.tuple cs')
inductive VRs (ι : Emb) : List V → List Value → Prop
  | nil : VRs ι [] []
  | cons {v : V} {v' : Value} {vs : List V} {vs' : List Value} (h : VR ι v v') (t : VRs ι vs vs') : VRs ι (v :: vs) (v' :: vs')
end

def Emb.le (ι κ : Emb) : Prop := ∀ i p, ι i = some p → κ i = some p
theorem Emb.le_refl (ι : Emb) : Emb.le ι ι := fun _ _ h => h
theorem Emb.le.trans' {ι κ μ : Emb} (h : Emb.le ι κ) (k : Emb.le κ μ) : Emb.le ι μ := fun i p e => k i p (h i p e)

mutual
theorem VR.mono {ι κ : Emb} (hl : Emb.le ι κ) : ∀ {v : V} {v' : Value}, VR ι v v' → VR κ v v'
  | _, _, .any v => .any v
  | _, _, .bool b => .bool b
  | _, _, .int k n => .int k n
  | _, _, .str s => .str s
  | _, _, .ptrN => .ptrN
  | _, _, .ptr h => .ptr (hl _ _ h)
  | _, _, .slN es => .slN es
  | _, _, .sl h h1 h2 h3 h4 h5 h6 => .sl (hl _ _ h) h1 h2 h3 h4 h5 h6
  | _, _, .mapN => .mapN
  | _, _, .map h => .map (hl _ _ h)
  | _, _, .fn f h1 h2 => .fn f (VRs.mono hl h1) (VRs.mono hl h2)
  | _, _, .nilFn => .nilFn
  | _, _, .yld h => .yld (hl _ _ h)
  | _, _, .agg h => .agg (VRs.mono hl h)
  | _, _, .tup h => .tup (VRs.mono hl h)
theorem VRs.mono {ι κ : Emb} (hl : Emb.le ι κ) : ∀ {v : List V} {v' : List Value}, VRs ι v v' → VRs κ v v'
  | _, _, .nil => .nil
  | _, _, .cons h t => .cons (VR.mono hl h) (VRs.mono hl t)
end

section
variable {ι : Emb}
theorem VRs.length : ∀ {l : List V} {l' : List Value}, VRs ι l l' → l.length = l'.length
  | _, _, .nil => rfl
  | _, _, .cons _ t => by simp [t.length]
theorem VRs.get : ∀ {l : List V} {l' : List Value}, VRs ι l l' → ∀ {k : Nat} {v : V}, l[k]? = some v → ∃ v', l'[k]? = some v' ∧ VR ι v v'
  | _, _, .nil, _, _, h => by simp at h
  | _, _, .cons (v' := v') h t, 0, v, e => ⟨v', rfl, by simp at e; exact e ▸ h⟩
  | _, _, .cons h t, k + 1, v, e => by simpa using t.get (by simpa using e)
theorem VRs.get' : ∀ {l : List V} {l' : List Value}, VRs ι l l' → ∀ {k : Nat} {v' : Value}, l'[k]? = some v' → ∃ v, l[k]? = some v ∧ VR ι v v'
  | _, _, .nil, _, _, h => by simp at h
  | _, _, .cons (v := v) h t, 0, v', e => ⟨v, rfl, by simp at e; exact e ▸ h⟩
  | _, _, .cons h t, k + 1, v, e => by simpa using t.get' (by simpa using e)
theorem VRs.append : ∀ {a b : List V} {a' b' : List Value}, VRs ι a a' → VRs ι b b' → VRs ι (a ++ b) (a' ++ b')
  | _, _, _, _, .nil, h => h
  | _, _, _, _, .cons h t, k => .cons h (t.append k)
theorem VRs.drop : ∀ {a : List V} {a' : List Value}, VRs ι a a' → ∀ n, VRs ι (a.drop n) (a'.drop n)
  | _, _, h, 0 => by simpa using h
  | _, _, .nil, n + 1 => by simpa using VRs.nil
  | _, _, .cons _ t, n + 1 => by simpa using t.drop n
theorem VRs.take : ∀ {a : List V} {a' : List Value}, VRs ι a a' → ∀ n, VRs ι (a.take n) (a'.take n)
  | _, _, _, 0 => by simpa using VRs.nil
  | _, _, .nil, n + 1 => by simpa using VRs.nil
  | _, _, .cons h t, n + 1 => by simpa using VRs.cons h (t.take n)
theorem VRs.set : ∀ {a : List V} {a' : List Value}, VRs ι a a' → ∀ (n : Nat) {v : V} {v' : Value}, VR ι v v' → VRs ι (a.set n v) (a'.set n v')
  | _, _, .nil, n, _, _, _ => by simpa using VRs.nil
  | _, _, .cons _ t, 0, _, _, k => by simpa using VRs.cons k t
  | _, _, .cons h t, n + 1, _, _, k => by simpa using VRs.cons h (t.set n k)
theorem VRs.of_get : ∀ {l : List V} {l' : List Value}, l.length = l'.length → (∀ (k : Nat) (v : V) (v' : Value), l[k]? = some v → l'[k]? = some v' → VR ι v v') → VRs ι l l'
  | [], [], _, _ => .nil
  | v :: l, v' :: l', hl, h => .cons (h 0 v v' rfl rfl) (VRs.of_get (by simpa using hl) fun k a b e e' => h (k + 1) a b (by simpa using e) (by simpa using e'))
  | [], _ :: _, hl, _ => by simp at hl
  | _ :: _, [], hl, _ => by simp at hl
theorem VRs.replicate {v : V} {v' : Value} (h : VR ι v v') : ∀ n, VRs ι (List.replicate n v) (List.replicate n v')
  | 0 => .nil
  | n + 1 => .cons h (VRs.replicate h n)
theorem VRs.map_of {α : Type} {f : α → V} {g : α → Value} (h : ∀ x, VR ι (f x) (g x)) : ∀ l : List α, VRs ι (l.map f) (l.map g)
  | [] => .nil
  | x :: l => .cons (h x) (VRs.map_of h l)
end

/-- The cells of a value. -/
def V.cells : V → List V
  | .agg cs => cs
  | v => [v]

/-- Is it a value of one cell for sure? -/
def V.one : V → Bool
  | .agg _ | .tup _ | .any => false
  | _ => true

/-- Does it bear cells that are known? -/
def V.plain : V → Bool
  | .any => false
  | _ => true

theorem VR.cells {ι : Emb} {v : V} {v' : Value} (h : VR ι v v') (hp : v.plain = true) : VRs ι v.cells v'.cells.toList := by
  cases h <;> first | (simp [V.plain] at hp; done) | (rename_i h; exact h) | exact .cons (by constructor <;> assumption) .nil

theorem VR.one {ι : Emb} {v : V} {v' : Value} (h : VR ι v v') (hp : v.one = true) : v'.oneCell' = true := by
  cases h <;> simp [V.one] at hp <;> rfl

/-- A constant of the code. -/
def ofCell : Value → V
  | .bool b => .bool b
  | .int k n => .int k n
  | .string s => .str s.data.toList
  | .pointer none => .ptr none
  | .slice none 0 0 => .sl none 0 0 0 true
  | .map none => .map none
  | .nilFunc => .nilFn
  | _ => .any

def ofValue : Value → V
  | .agg cs => .agg (cs.toList.map ofCell)
  | .tuple cs => .tup (cs.toList.map ofCell)
  | v => ofCell v

theorem VR.ofCell {ι : Emb} (v : Value) : VR ι (ofCell v) v := by
  unfold Zs.ofCell
  split <;> constructor

theorem VR.ofValue {ι : Emb} (v : Value) : VR ι (ofValue v) v := by
  unfold Zs.ofValue
  split
  · exact .agg (by simpa using VRs.map_of (g := fun x => x) VR.ofCell _)
  · exact .tup (by simpa using VRs.map_of (g := fun x => x) VR.ofCell _)
  · exact VR.ofCell _

def V.undef : V := .tup []

end Go.Zs
