/- A sound evaluator for the model's programs, eighth part: equality, operators, conversions. -/
import Derived.Test.YtkgglkoooldodaaZsI1
set_option linter.unusedVariables false
set_option linter.unusedSimpArgs false
set_option linter.deprecated false
namespace Go.Zs
open Go Go.RowKit

theorem beqBytes_iff : ∀ (a b : List UInt8), beqBytes a b = (a == b)
  | [], [] => rfl
  | [], _ :: _ => rfl
  | _ :: _, [] => rfl
  | a :: x, b :: y => by
    have e : Nat.beq a.toNat b.toNat = (a == b) := by
      by_cases h : a = b
      · subst h; simp
      · have h1 : a.toNat ≠ b.toNat := fun e => h (UInt8.toNat_inj.1 e)
        rw [T.beq_false h1]; simp [h]
    simp only [beqBytes, e, beqBytes_iff x y]
    rfl

theorem toList_data (s : ByteArray) : s.toList = s.data.toList := ByteArray.toList_eq s

/-- What a function without a body does. -/
def Ext.run : Ext → Array Value → Sem Value
  | .add => Extern.Atomic.update (Op.intArith .add) .i64 true
  | .load => Extern.Atomic.loadT (.int .i64)
  | .store => Extern.Atomic.storeT

/-- What is asked of the program besides: the regions are fine. -/
structure BodyOK (E : Env) : Prop where
  fine : ∀ (f : Nat) fn c, E.P.funcs[f]? = some fn → fn.body = some c → E.fine.testBit f = true → okCode E c = true

/-- What is asked of the program: the types whose values are compared are plain; the functions without a body are what they are taken for; no function is the count of goroutines. -/
structure EnvOK (E : Env) : Prop where
  ext : ∀ f e, E.ext f = some e → ∃ fn, E.P.funcs[f]? = some fn ∧ fn.body = none ∧ (fn.name == "runtime.NumGoroutine") = false ∧ (Extern.findNext fn).isNone = true ∧ Extern.find fn = some e.run
  name : ∀ (f : Nat) fn, E.P.funcs[f]? = some fn → fn.body.isSome = true → (fn.name == "runtime.NumGoroutine") = false
  mixed : E.P.follows .mixedOrders = true
  eqs : ∀ t, t ∈ E.eqs → E.P.stoodInHeld t = false ∧ E.P.eqGuardType E.P.depth t = false

section
variable {w0 : Base} {ι : Emb} {h : Heap} {w : World} {E : Env}

theorem shape_of {P : Program} {b : Nat} {c : Array Value} {e : TypeId} {fz : Nat × Nat} (hb : w.heap[b]? = some (.cells c e fz)) : (shape b).run P w = .ok (some (e, c.size)) w := by
  simp [World.shape?, hb]

theorem frozen_own {P : Program} {b o : Nat} {s : Option Nat} {c : Array Value} {e : TypeId} {fz : Nat × Nat} (hb : w.heap[b]? = some (.cells c e fz)) (hz : fz.2 = 0) : (frozen ⟨b, o, s⟩).run P w = .ok false w := by
  obtain ⟨a, z⟩ := fz
  cases hz
  simp [World.frozen?, hb]

theorem eqFields_sound {d : Nat} {eq : TypeId → V → V → Option Bool} (heq : ∀ t x y x' y' r, eq t x y = some r → VR ι x x' → VR ι y y' → (Op.equalIn d t x' y').run E.P w = .ok r w)
    {xs ys : List V} {xs' ys' : Array Value} (hx : VRs ι xs xs'.toList) (hy : VRs ι ys ys'.toList) : ∀ (fs : List Field) (r : Bool), dEqF E eq xs ys fs = some r → (Op.eqFields d xs' ys' fs).run E.P w = .ok r w
  | [], r, hd => by simp only [dEqF] at hd; cases hd; rfl
  | f :: fs, r, hd => by
    simp only [dEqF] at hd
    simp only [Op.eqFields]
    by_cases hn : f.name = "_"
    · rw [if_pos hn] at hd
      rw [if_neg (by simpa using hn)]
      exact eqFields_sound heq hx hy fs r hd
    · rw [if_neg hn] at hd
      rw [if_pos hn]
      obtain ⟨a, ha, hd⟩ := bind_some hd
      obtain ⟨b, hb, hd⟩ := bind_some hd
      obtain ⟨s, hs, hd⟩ := bind_some hd
      obtain ⟨a', ra, va⟩ := part_sound (w := w) hx ha
      obtain ⟨b', rb, vb⟩ := part_sound (w := w) hy hb
      have re := heq _ _ _ _ _ _ hs va vb
      simp only [Sem.run_bind, ra, rb, re, Result.andThen_ok]
      cases s with
      | true => exact eqFields_sound heq hx hy fs r hd
      | false => cases hd; rfl

theorem equal_sound (hE : EnvOK E) (H : HR w0 ι h w) : ∀ (d D : Nat), d ≤ D → ∀ (t : TypeId) (x y : V) (x' y' : Value) (r : Bool), dEqual E d t x y h = some r → VR ι x x' → VR ι y y' →
    (Op.equalIn D t x' y').run E.P w = .ok r w
  | 0, _, _, _, _, _, _, _, _, hd, _, _ => by simp [dEqual] at hd
  | d + 1, 0, hle, _, _, _, _, _, _, _, _, _ => by omega
  | d + 1, D + 1, hle, t, x, y, x', y', r, hd, hx, hy => by
    have ih := equal_sound hE H d D (by omega)
    unfold dEqual at hd
    unfold Op.equalIn
    split at hd
    · rename_i a b hu
      cases hd; cases hx; cases hy
      simp [run_und hu]
    · rename_i k a k' b hu
      cases hx; cases hy
      split at hd
      · rename_i hk; cases hd
        subst hk
        simp [run_und hu]
        by_cases e : a = b <;> simp [e]
      · cases hd
    · rename_i a b hu
      cases hd; cases hx; cases hy
      rw [beqBytes_iff]
      simp [run_und hu, beq_toListBytes, toList_data]
    · rename_i e b hu
      cases hd; cases hx
      cases hy <;> simp [run_und hu]
    · rename_i e a hh hu
      cases hd; cases hy
      cases hx with
      | ptrN => exact absurd rfl hh
      | ptr hp => simp [run_und hu]
    · rename_i e i o j u hu
      obtain ⟨s, hs, hd⟩ := bind_some hd
      obtain ⟨hz, hd⟩ := bif_none hd
      cases hx with
      | @ptr _ _ p hp =>
      cases hy with
      | @ptr _ _ q hq =>
      simp only [Sem.run_bind, run_und hu, Result.andThen_ok, run_size hs]
      rw [if_pos (by simpa using bne hz)]
      unfold sameAddr
      cases hij : Nat.beq i j with
      | true =>
        rw [hij] at hd
        have := beq hij
        subst this
        rw [hp] at hq
        cases hq
        cases hd
        simp
        by_cases e : o = u
        · subst e; simp
        · rw [T.beq_false e]
          simp; omega
      | false =>
        rw [hij] at hd
        obtain ⟨hl, hd⟩ := bif_some hd
        cases hd
        simp only [Bool.and_eq_true, live] at hl
        obtain ⟨l1, l2⟩ := hl
        have hij := bne hij
        split at l1
        · rename_i cs hg1
          split at l2
          · rename_i cs2 hg2
            obtain ⟨p', hp', c1, e1, f1, a1, _, _, _, _, z1⟩ := H.obj _ _ hg1
            rw [hp] at hp'; cases hp'
            obtain ⟨q', hq', c2, e2, f2, a2, _, _, _, _, z2⟩ := H.obj _ _ hg2
            rw [hq] at hq'; cases hq'
            have hne := H.sep _ _ _ _ _ _ hg1 hg2 hp hq hij rfl
            have s1 := frozen_own (P := E.P) (o := p.base + o) (s := none) a1 (z1 rfl).1
            have s2 := frozen_own (P := E.P) (o := q.base + u) (s := none) a2 (z2 rfl).1
            have s3 := frozen_own (P := E.P) (o := c1.size) (s := none) a1 (z1 rfl).1
            have s4 := frozen_own (P := E.P) (o := c2.size) (s := none) a2 (z2 rfl).1
            have b1 := shape_of (P := E.P) a1
            have b2 := shape_of (P := E.P) a2
            have hbne : (p.blk == q.blk) = false := by simpa using hne
            simp only [hbne, Bool.false_eq_true, if_false, Sem.run_bind, s1, s2, Result.andThen_ok, noView, viewAt, b1, b2, mayBeOne, stringish, s3, s4, Sem.run_ite, Option.isSome_some, if_true, Sem.run_pure, Option.isSome_none, Bool.and_self, Bool.false_and, Bool.or_self]
          · cases l2
        · cases l1
    · rename_i e l1 l2 s1 x1 b l3 l4 s2 x2 hu
      cases hd
      cases hx
      cases hy <;> simp [run_und hu]
    · rename_i e a l1 l2 s1 x1 l3 l4 s2 x2 hh hu
      cases hd
      cases hy
      cases hx with
      | slN => exact absurd rfl hh
      | sl => simp [run_und hu]
    · rename_i a b c hu
      cases hd
      cases hx
      cases hy <;> simp [run_und hu]
    · rename_i a b c hh hu
      cases hd
      cases hy
      cases hx with
      | mapN => exact absurd rfl hh
      | map => simp [run_und hu]
    · rename_i a b c hu
      cases hd; cases hx; cases hy; simp [run_und hu]
    · rename_i a b c f g i hu
      cases hd; cases hx; cases hy; simp [run_und hu]
    · rename_i a b c f g i hu
      cases hd; cases hx; cases hy; simp [run_und hu]
    · rename_i fields xs ys hu
      obtain ⟨hm, hd⟩ := bif_some hd
      have hm' : t ∈ E.eqs := by simpa using hm
      cases hx with
      | @agg _ xs' hx =>
      cases hy with
      | @agg _ ys' hy =>
      have hf : E.P.fieldsOf t = fields := by simp [Program.fieldsOf, hu]
      have := run_equalIn_struct (P := E.P) w D t xs' ys' (by rw [hf]; exact hu) (hE.eqs t hm').1
      unfold Op.equalIn at this
      rw [this, hf]
      exact eqFields_sound ih hx hy fields.toList r hd
    · cases hd

end
end Go.Zs
/- A sound evaluator for the model's programs, ninth part: operators, conversions. -/
namespace Go.Zs
open Go Go.RowKit

section
variable {w0 : Base} {ι : Emb} {h : Heap} {w : World} {E : Env}

theorem bits_sound {op : BinOp} {k : IntKind} {a b : Int} {v : V} (hd : dBits k op a b = some v) : Quiet E.P ι (Op.intBits op k a b) w v := by
  unfold dBits at hd
  cases op <;> (simp only at hd) <;> first | (cases hd; exact ⟨_, rfl, .int ..⟩) | cases hd

theorem int_sound {op : BinOp} {t : TypeId} {k : IntKind} {a b : Int} {v : V} (h1 : op ≠ .shl) (h2 : op ≠ .shr) (hd : dInt op k a b = some v) : Quiet E.P ι (binOp op t (.int k a) (.int k b)) w v := by
  unfold dInt at hd
  cases op <;> (simp only at hd) <;> first
    | exact absurd rfl h1
    | exact absurd rfl h2
    | (obtain ⟨v', hr, hv⟩ := bits_sound (E := E) (ι := ι) (w := w) hd; exact ⟨v', by simp only [binOp, ne_eq, not_true, if_false]; exact hr, hv⟩)
    | (split at hd
       · cases hd
       · rename_i hb; cases hd; exact ⟨_, by simp only [binOp, ne_eq, not_true, if_false, Op.intDiv, hb]; rfl, .int ..⟩)
    | (cases hd; first
        | exact ⟨_, by simp only [binOp, ne_eq, not_true, if_false, Op.intArith]; rfl, .int ..⟩
        | exact ⟨_, by simp only [binOp, ne_eq, not_true, if_false, Op.intCmp]; rfl, .bool _⟩)
    | cases hd

theorem shift_sound {op : BinOp} {t : TypeId} {k yk : IntKind} {a b : Int} {v : V} (hd : (match op with
    | .shl => if b < 0 then none else some (.int k (k.wrap (a * 2 ^ (min b.toNat k.bits))))
    | .shr => if b < 0 then none else some (.int k (a.fdiv (2 ^ (min b.toNat k.bits))))
    | _ => none) = some v) : Quiet E.P ι (binOp op t (.int k a) (.int yk b)) w v := by
  cases op <;> simp only [reduceCtorEq] at hd
  all_goals
    split at hd
    · cases hd
    · rename_i hb
      cases hd
      exact ⟨_, by simp only [binOp, Op.shift, hb, if_false]; rfl, .int ..⟩

theorem str_sound {op : BinOp} {t : TypeId} {a b : ByteArray} {v : V} (hd : dStr op a.data.toList b.data.toList = some v) : Quiet E.P ι (binOp op t (.string a) (.string b)) w v := by
  have hb : binOp op t (.string a) (.string b) = Op.stringOp op a b := by cases op <;> rfl
  rw [hb]
  unfold Op.stringOp
  rw [toList_data, toList_data]
  unfold dStr at hd
  rw [beqBytes_iff] at hd
  cases op <;> (simp only at hd) <;> first
    | (obtain ⟨hc, hd⟩ := bif_some hd
       cases hd
       have hc := ble hc
       refine ⟨.string (a ++ b), ?_, .str' (by simp)⟩
       simp only
       rw [if_neg]
       · rfl
       · have e1 : a.data.toList.length = a.size := by simp
         have e2 : b.data.toList.length = b.size := by simp
         rw [e1, e2] at hc
         have : IntKind.i64.max = 9223372036854775807 := by decide
         rw [this]; omega)
    | (cases hd; exact ⟨_, rfl, .bool _⟩)
    | cases hd

theorem equalV_sound (hE : EnvOK E) (H : HR w0 ι h w) {t : TypeId} {x y : V} {x' y' : Value} {r : Bool} (hd : dEqual E 100 t x y h = some r) (hx : VR ι x x') (hy : VR ι y y') : (Op.equal t x' y').run E.P w = .ok r w :=
  equal_sound hE H 100 10000 (by omega) t x y x' y' r hd hx hy

theorem binEql_run {t : TypeId} {x y : V} {x' y' : Value} {r : Bool} (hx : VR ι x x') (hy : VR ι y y') (hd : dEqual E 100 t x y h = some r) (hr : (Op.equal t x' y').run E.P w = .ok r w)
    (hi : ∀ k a k' b, ¬ (x = .int k a ∧ y = .int k' b)) (hs : ∀ a b, ¬ (x = .str a ∧ y = .str b)) :
    (binOp .eql t x' y').run E.P w = .ok (.bool r) w ∧ (binOp .neq t x' y').run E.P w = .ok (.bool (!r)) w := by
  have key : ∀ x' y', (∀ k a k' b, ¬ (x' = .int k a ∧ y' = .int k' b)) → (∀ a b, ¬ (x' = .string a ∧ y' = .string b)) → (∀ k a k' b, ¬ (x' = .float k a ∧ y' = .float k' b)) → (∀ k a b k' c d, ¬ (x' = .complex k a b ∧ y' = .complex k' c d)) →
      binOp .eql t x' y' = (do pure (.bool (← Op.equal t x' y'))) ∧ binOp .neq t x' y' = (do pure (.bool (!(← Op.equal t x' y')))) := by
    intro x' y' h1 h2 h3 h4
    constructor <;>
    · unfold binOp
      split <;> first
        | rfl
        | (exact absurd ⟨rfl, rfl⟩ (h1 _ _ _ _))
        | (exact absurd ⟨rfl, rfl⟩ (h2 _ _))
        | (exact absurd ⟨rfl, rfl⟩ (h3 _ _ _ _))
        | (exact absurd ⟨rfl, rfl⟩ (h4 _ _ _ _ _ _))
        | (rename_i h; cases h; done)
        | (simp_all; done)
  obtain ⟨k1, k2⟩ := key x' y' (by
      rintro k a k' b ⟨rfl, rfl⟩
      cases hx <;> cases hy <;> first | exact hi _ _ _ _ ⟨rfl, rfl⟩ | (unfold dEqual at hd; simp at hd; done) | (unfold dEqual at hd; split at hd <;> simp_all; done))
    (by
      rintro a b ⟨rfl, rfl⟩
      cases hx <;> cases hy <;> first | exact hs _ _ ⟨rfl, rfl⟩ | (unfold dEqual at hd; simp at hd; done) | (unfold dEqual at hd; split at hd <;> simp_all; done))
    (by
      rintro k a k' b ⟨rfl, rfl⟩
      cases hx; cases hy
      unfold dEqual at hd; split at hd <;> simp_all)
    (by
      rintro k a b k' c d ⟨rfl, rfl⟩
      cases hx; cases hy
      unfold dEqual at hd; split at hd <;> simp_all)
  rw [k1, k2]
  simp [hr]

theorem bin_sound (hE : EnvOK E) (H : HR w0 ι h w) {op : BinOp} {t : TypeId} {x y : V} {x' y' : Value} {v : V} (hx : VR ι x x') (hy : VR ι y y') (hd : dBin E op t x y h = some v) : Quiet E.P ι (binOp op t x' y') w v := by
  unfold dBin at hd
  split at hd
  · cases hx; cases hy; exact shift_sound (op := .shl) hd
  · cases hx; cases hy; exact shift_sound (op := .shr) hd
  · rename_i k a k' b n1 n2
    cases hx; cases hy
    split at hd
    · rename_i hk; subst hk
      exact int_sound n1 n2 hd
    · cases hd
  · cases hx; cases hy; exact str_sound hd
  · rename_i n1 n2
    obtain ⟨r, hr, rfl⟩ := map_some hd
    have := binEql_run (w := w) hx hy hr (equalV_sound hE H hr hx hy) (by rintro k a k' b ⟨rfl, rfl⟩; exact n1 _ _ _ _ rfl rfl) (by rintro a b ⟨rfl, rfl⟩; exact n2 _ _ rfl rfl)
    exact ⟨_, this.1, .bool _⟩
  · rename_i n1 n2
    obtain ⟨r, hr, rfl⟩ := map_some hd
    have := binEql_run (w := w) hx hy hr (equalV_sound hE H hr hx hy) (by rintro k a k' b ⟨rfl, rfl⟩; exact n1 _ _ _ _ rfl rfl) (by rintro a b ⟨rfl, rfl⟩; exact n2 _ _ rfl rfl)
    exact ⟨_, this.2, .bool _⟩
  · cases hd

end
end Go.Zs
/- A sound evaluator for the model's programs, tenth part: new objects, conversions. -/
namespace Go.Zs
open Go Go.RowKit

section
variable {w0 : Base} {ι : Emb} {h : Heap} {w : World} {E : Env}

/-- New cells of the call's own. -/
theorem HR.newCells (H : HR w0 ι h w) {cs : List V} {c : Array Value} {e : TypeId} (hc : VRs ι cs c.toList) :
    HR w0 (ι.add h.next ⟨w.heap.size, 0, c.size⟩) (h.new (.cells cs .own)) (w.alloc (.cells c e)) := by
  refine H.new rfl ⟨c, e, (0, 0), heap_alloc_new _ _, by simp, ?_, ?_, ?_, fun _ => ⟨rfl, rfl⟩⟩
  · have := hc.length; simp at this; show cs.length ≤ c.size; omega
  · show VRs ι cs ((c.toList.drop 0).take cs.length)
    rw [List.drop_zero, hc.length, List.take_length]
    exact hc
  · intro _ j _; simp

/-- .. with room behind them. -/
theorem HR.newRoom (H : HR w0 ι h w) {cs : List V} {c r : Array Value} {e : TypeId} (hc : VRs ι cs c.toList) (k : Kd := .own) :
    HR w0 (ι.add h.next ⟨w.heap.size, 0, c.size + r.size⟩) (h.new (.cells cs k)) (w.alloc (.cells (c ++ r) e)) := by
  refine H.new rfl ⟨c ++ r, e, (0, 0), heap_alloc_new _ _, by simp, ?_, ?_, ?_, fun _ => ⟨rfl, rfl⟩⟩
  · have := hc.length; simp at this; show cs.length ≤ c.size + r.size; omega
  · show VRs ι cs (((c ++ r).toList.drop 0).take cs.length)
    rw [List.drop_zero, hc.length, Array.toList_append, List.take_left']
    · exact hc
    · rfl
  · intro _ j _; simp

theorem VR.new_ptr (p : Pl) (i : Nat) (hb : p.base = 0) : VR (ι.add i p) (.ptr (some (i, 0))) (.pointer (some ⟨p.blk, 0, none⟩)) := by
  have := VR.ptr (o := 0) (Emb.add_same ι i p)
  rw [hb] at this
  exact this

theorem VR.new_sl (p : Pl) (i len lo es c : Nat) (ex : Bool) (hb : p.base = 0) (h1 : len ≤ lo) (h2 : lo ≤ c) (h3 : ex = true → c = lo) (h6 : c * es ≤ p.ext) :
    VR (ι.add i p) (.sl (some (i, 0)) len lo es ex) (.slice (some ⟨p.blk, 0, none⟩) len c) :=
  .sl (Emb.add_same ι i p) h1 h2 h3 (fun _ => by omega) (by omega) (by omega)

theorem box_sound (H : HR w0 ι h w) {t : TypeId} {x : V} {x' : Value} (hx : VR ι x x') (hp : x.plain = true) :
    SemOK E.P w0 ι (Instr.box t x') w (.ptr (some (h.next, 0)), h.new (.cells x.cells .own)) :=
  ⟨_, _, _, H.le_add _, H.newCells (e := t) (hx.cells hp), VR.new_ptr ⟨w.heap.size, 0, x'.cells.size⟩ h.next rfl, rfl⟩

theorem alloc_sound (H : HR w0 ι h w) {t : TypeId} {z : V} (hz : zeroB E t = some z) (hp : z.plain = true) :
    SemOK E.P w0 ι (Instr.alloc t true (.tuple #[])) w (.ptr (some (h.next, 0)), h.new (.cells z.cells .own)) := by
  obtain ⟨z', hr, rfl⟩ := run_zero hz
  refine ⟨_, _, _, H.le_add _, H.newCells (e := t) ((VR.ofValue z').cells hp), VR.new_ptr ⟨w.heap.size, 0, z'.cells.size⟩ h.next rfl, ?_⟩
  unfold Instr.alloc
  simp only [Sem.run_bind, hr w, Result.andThen_ok]
  rfl

theorem buildSlice_sound (H : HR w0 ι h w) {t : TypeId} {len : Nat} {ps : List (Nat × V)} {ps' : Array (Nat × Value)} {r : V × Heap} (hps : PsR ι ps ps'.toList) (hd : dBuildSlice E t len ps h = some r) :
    SemOK E.P w0 ι (Instr.buildSlice t len ps') w r := by
  unfold dBuildSlice at hd
  split at hd
  · rename_i e hu
    obtain ⟨s, hs, hd⟩ := bind_some hd
    obtain ⟨hb, hd⟩ := bif_some hd
    obtain ⟨z, hz, hd⟩ := bind_some hd
    obtain ⟨cs, hcs, rfl⟩ := map_some hd
    obtain ⟨s', hs', hzl, hzz⟩ := zeros_sound hz
    rw [hs] at hs'; cases hs'
    unfold Instr.buildSlice
    have hle : ¬ len * s > 2 ^ 24 := by have := ble hb; omega
    rcases hzz with ⟨h0, rfl⟩ | ⟨hne, z', hr, hsz, hv⟩
    · obtain ⟨r', hf, hv⟩ := fill_sound (ι := ι) (cs' := (Array.range (len * s)).map ((#[] : Array Value)[· % (#[] : Array Value).size]!)) hps (by rw [h0]; simpa using VRs.nil) hcs
      refine ⟨_, _, _, H.le_add _, H.newCells (e := e) hv, VR.new_sl ⟨w.heap.size, 0, r'.size⟩ h.next len len s len true rfl (Nat.le_refl _) (Nat.le_refl _) (fun _ => rfl) (by rw [h0]; exact Nat.zero_le _), ?_⟩
      simp only [Sem.run_bind, run_und hu, Result.andThen_ok, run_size hs, if_neg hle, if_pos h0, Sem.run_pure, hf]
      rfl
    · have hv' := hv ι
      rw [hsz] at hv'
      obtain ⟨r', hf, hv2⟩ := fill_sound (ι := ι) hps hv' hcs
      have hl : r'.size = len * s := by
        have l1 := hv2.length
        have l2 : ∀ {ps : List (Nat × V)} {a b : List V}, dFill (fun i => some (i * s, s)) a ps = some b → b.length = a.length := by
          intro ps
          induction ps with
          | nil => intro a b e; simp only [dFill] at e; cases e; rfl
          | cons p ps ih =>
            intro a b e
            obtain ⟨i, v⟩ := p
            simp only [dFill] at e
            obtain ⟨hc, e⟩ := bif_some e
            rw [ih e]
            simp only [Bool.and_eq_true] at hc
            have := ble hc.2
            unfold splice; simp; omega
        have := l2 hcs
        simp at l1; omega
      refine ⟨_, _, _, H.le_add _, H.newCells (e := e) hv2, VR.new_sl ⟨w.heap.size, 0, r'.size⟩ h.next len len s len true rfl (Nat.le_refl _) (Nat.le_refl _) (fun _ => rfl) (by show _ ≤ r'.size; omega), ?_⟩
      simp only [Sem.run_bind, run_und hu, Result.andThen_ok, run_size hs, if_neg hle, if_neg hne, hr w, Sem.run_pure, hsz, hf]
      rfl
  · cases hd

theorem makeSlice_sound (H : HR w0 ι h w) {t : TypeId} {l c : V} {l' c' : Value} {r : V × Heap} (hl : VR ι l l') (hc : VR ι c c') (hd : dMakeSlice E t l c h = some r) : SemOK E.P w0 ι (Instr.makeSlice t l' c') w r := by
  unfold dMakeSlice at hd
  split at hd
  · rename_i e k1 n k2 m hu
    obtain ⟨i, hi, hd⟩ := bind_some hd
    obtain ⟨hb, hd⟩ := bif_some hd
    obtain ⟨z, hz, rfl⟩ := map_some hd
    simp only [Bool.and_eq_true] at hb
    obtain ⟨⟨hb1, hb2⟩, hb3⟩ := hb
    have hb1 := ble hb1
    have hb2 := ble hb2
    have hb3 := ble hb3
    obtain ⟨s', hs', hzl, hzz⟩ := zeros_sound hz
    have hs : s' = i.size := by unfold sizeB at hs'; rw [hi] at hs'; cases hs'; rfl
    subst hs
    cases hl; cases hc
    have wl : IntKind.i64.wrap (Int.ofNat n) = Int.ofNat n := by
      unfold IntKind.wrap; simp [IntKind.bits, IntKind.signed]; omega
    have wc : IntKind.i64.wrap (Int.ofNat m) = Int.ofNat m := by
      unfold IntKind.wrap; simp [IntKind.bits, IntKind.signed]; omega
    have t1 : ¬ ((i.bytes : Int) * Int.ofNat m > 2 ^ 48) := by
      have : ((i.bytes * m : Nat) : Int) ≤ (281474976710656 : Nat) := Int.ofNat_le.2 hb2
      simp only [Int.natCast_mul] at this
      simp only [Int.ofNat_eq_natCast]
      omega
    have cond : (((decide (Int.ofNat m < 0) || decide ((i.bytes : Int) * Int.ofNat m > 2 ^ 48)) || decide (Int.ofNat n < 0)) || decide (Int.ofNat n > Int.ofNat m)) = false := by
      simp only [Bool.or_eq_false_iff, decide_eq_false_iff_not]
      refine ⟨⟨⟨?_, t1⟩, ?_⟩, ?_⟩ <;> simp only [Int.ofNat_eq_natCast] <;> omega
    unfold Instr.makeSlice
    have hsz : (sizeOf e).run E.P w = .ok i.size w := run_size hs'
    rcases hzz with ⟨h0, rfl⟩ | ⟨hne, z', hr, hsz', hv⟩
    · refine ⟨_, _, _, H.le_add _, H.newCells (e := e) (c := #[]) (by simpa using VRs.nil), VR.new_sl ⟨w.heap.size, 0, 0⟩ h.next n m i.size m true rfl hb1 (Nat.le_refl _) (fun _ => rfl) (by rw [h0]; exact Nat.zero_le _), ?_⟩
      simp only [Sem.run_bind, run_und hu, Result.andThen_ok, asInt, asIntOf, Sem.run_pure, run_info hi, wl, wc, cond, Bool.false_eq_true, if_false, run_askRoom, hsz]
      have e0 : (Int.ofNat m).toNat * i.size = 0 := h0
      simp only [e0, if_true, Sem.run_bind, Sem.run_pure, Result.andThen_ok, newRow, run_newObj]
      have er : Array.range 0 = #[] := rfl
      simp [er]
    · have hv' := hv ι
      refine ⟨_, _, _, H.le_add _, H.newCells (e := e) hv', VR.new_sl ⟨w.heap.size, 0, _⟩ h.next n m i.size m true rfl hb1 (Nat.le_refl _) (fun _ => rfl) ?_, ?_⟩
      · simp [hsz']
      · simp only [Sem.run_bind, run_und hu, Result.andThen_ok, asInt, asIntOf, Sem.run_pure, run_info hi, wl, wc, cond, Bool.false_eq_true, if_false, run_askRoom, hsz]
        have e0 : (Int.ofNat m).toNat * i.size = m * i.size := rfl
        simp only [e0, if_neg hne, hr w, Sem.run_bind, Sem.run_pure, Result.andThen_ok, hsz']
        rfl
  · cases hd

end
end Go.Zs
/- A sound evaluator for the model's programs, eleventh part: strings and bytes, maps. -/
namespace Go.Zs
open Go Go.RowKit

section
variable {w0 : Base} {ι : Emb} {h : Heap} {w : World} {E : Env}

theorem bytes_vs {s : List UInt8} : ∀ {vs : List V} {vs' : List Value}, VRs ι vs vs' → bytesOfVs vs = some s → ∃ ns : List Int, vs' = ns.map (fun n => Value.int .u8 n) ∧ s = ns.map (fun n => UInt8.ofNat n.toNat) := by
  induction s with
  | nil =>
    intro vs vs' hv hd
    cases hv with
    | nil => exact ⟨[], rfl, rfl⟩
    | cons a t =>
      simp only [bytesOfVs] at hd
      obtain ⟨b, _, hd⟩ := bind_some hd
      obtain ⟨r, _, hd⟩ := map_some hd
      cases hd
  | cons x s ih =>
    intro vs vs' hv hd
    cases hv with
    | nil => simp [bytesOfVs] at hd
    | cons a t =>
      simp only [bytesOfVs] at hd
      obtain ⟨b, hb, hd⟩ := bind_some hd
      obtain ⟨r, hr, hd⟩ := map_some hd
      cases hd
      obtain ⟨ns, rfl, rfl⟩ := ih t hr
      unfold byteOfV at hb
      split at hb
      · rename_i n
        cases a
        cases hb
        exact ⟨n :: ns, rfl, rfl⟩
      · cases hb

theorem push_loop {P : Program} (f : Value → ByteArray → Sem (ForInStep ByteArray)) (hf : ∀ n s, f (.int .u8 n) s = pure (ForInStep.yield (s.push (UInt8.ofNat n.toNat)))) : ∀ (ns : List Int) (s : ByteArray) (w : World),
    (forIn (ns.map (fun n => Value.int .u8 n)) s f).run P w = .ok ⟨(s.data.toList ++ ns.map (fun n => UInt8.ofNat n.toNat)).toArray⟩ w
  | [], s, w => by simp
  | n :: ns, s, w => by
    simp only [List.map_cons, List.forIn_cons, hf, Sem.run_bind, Sem.run_pure, Result.andThen_ok]
    rw [push_loop f hf ns]
    congr 2
    simp [ByteArray.push]

theorem bytesToString_sound (H : HR w0 ι h w) {i o len lo es : Nat} {ex : Bool} {cs : List V} {k : Kd} {x' : Value} {s : List UInt8} (hx : VR ι (.sl (some (i, o)) len lo es ex) x') (hg : h.get i = some (.cells cs k))
    (hs : (len = 0 ∧ s = []) ∨ (o + len ≤ cs.length ∧ bytesOfVs ((cs.drop o).take len) = some s)) : Quiet E.P ι (Conv.bytesToString x') w (.str s) := by
  cases hx with
  | @sl _ _ _ _ _ off c _ p hp k1 k2 k3 k4 k5 k6 =>
  unfold Conv.bytesToString
  by_cases h0 : len = 0
  · subst h0
    have : s = [] := by
      rcases hs with ⟨_, e⟩ | ⟨_, e⟩
      · exact e
      · simpa [bytesOfVs] using e.symm
    subst this
    refine ⟨.string .empty, ?_, .str' rfl⟩
    simp [loadCells, loadCellsFrom]
  · rcases hs with ⟨e, _⟩ | ⟨hle, hb⟩
    · exact absurd e h0
    · obtain ⟨vs', hr, hv, _⟩ := H.row (P := E.P) hg hp hle
      obtain ⟨ns, hns, rfl⟩ := bytes_vs hv hb
      rw [k4 (by omega)]
      refine ⟨.string ⟨(ns.map (fun n => UInt8.ofNat n.toNat)).toArray⟩, ?_, .str' (by simp)⟩
      simp only [Sem.run_bind, hr, Result.andThen_ok]
      rw [← Array.forIn_toList, hns]
      rw [push_loop (P := E.P) _ (fun _ _ => rfl) ns ByteArray.empty w]
      simp

/-- A string's bytes, in new memory. -/
theorem freeze_new (w : World) (c : Array Value) (e : TypeId) : (w.alloc (.cells c e)).freeze ⟨w.heap.size, c.size, none⟩ 1 = w.alloc (.cells c e (c.size, c.size + 1)) := by
  unfold World.freeze World.alloc
  simp only [Nat.one_ne_zero, if_false]
  congr 1
  apply Array.ext
  · simp
  · intro i h1 h2
    simp only [Array.size_modify, Array.size_push] at h1
    rw [Array.getElem_modify]
    by_cases hi : i = w.heap.size
    · subst hi; simp
    · rw [if_neg (Ne.symm hi), Array.getElem_push, Array.getElem_push, dif_pos (by omega), dif_pos (by omega)]

theorem stringToBytes_sound (H : HR w0 ι h w) {e : TypeId} (s : ByteArray) (hs : s.size ≤ 1073741824) :
    SemOK E.P w0 ι (Conv.stringToBytes e s) w (.sl (some (h.next, 0)) s.data.toList.length s.data.toList.length 1 false, h.new (.cells (s.data.toList.map fun b => .int .u8 b.toNat) .mark)) := by
  unfold Conv.stringToBytes
  have hl : s.data.toList.length = s.size := by simp
  rw [hl]
  generalize hcap : (Question.appendCap s.size 0 e).cut (w.tape w.drawn (Question.appendCap s.size 0 e)) = cap
  have hle : s.size ≤ cap := by rw [← hcap]; simp [Question.cut]
  let c : Array Value := s.data.map (fun b => Value.int .u8 b.toNat) ++ Array.replicate (cap - s.size) (.int .u8 0)
  have hc : c.size = cap := by simp [c]; have : s.data.size = s.size := rfl; omega
  have hmap : VRs ι (s.data.toList.map fun b => V.int .u8 b.toNat) (s.data.map (fun b => Value.int .u8 b.toNat)).toList := by
    rw [Array.toList_map]
    exact VRs.map_of (fun b => .int ..) _
  refine ⟨ι.add h.next ⟨w.heap.size, 0, cap⟩, .slice (some ⟨w.heap.size, 0, none⟩) s.size cap, w.drew.alloc (.cells c e (c.size, c.size + 1)), H.le_add _, ?_, ?_, ?_⟩
  · have := H.drew.new (o := .cells (s.data.toList.map fun b => V.int .u8 b.toNat) .mark) (o' := .cells c e (c.size, c.size + 1)) (p := ⟨w.heap.size, 0, cap⟩) rfl
      ⟨c, e, _, heap_alloc_new _ _, by simp [hc], by simp; have : s.data.size = s.size := rfl; omega, by
        show VRs ι _ ((c.toList.drop 0).take _)
        rw [List.drop_zero, hmap.length, Array.toList_append, List.take_left']
        · exact hmap
        · rfl, by intro _ j hj; simp; omega, by intro e; cases e⟩
    exact this
  · exact VR.new_sl ⟨w.heap.size, 0, cap⟩ h.next s.size s.size 1 cap false rfl (Nat.le_refl _) hle (fun e => by cases e) (by simp)
  · simp only [Sem.run_bind, run_choose, Question.forced, Bool.false_eq_true, if_false, Result.andThen_ok, hcap, newRow, run_newObj, Sem.run_pure, markStringish, World.drew_eq, World.alloc_eq]
    have hsh : (w.drew.alloc (.cells c e)).shape? w.drew.heap.size = some (e, c.size) := by
      unfold World.shape?
      rw [heap_alloc_new]
    have hfr := freeze_new w.drew c e
    simp only [run_shape]
    show ((Result.ok ((w.drew.alloc (.cells c e)).shape? w.drew.heap.size) (w.drew.alloc (.cells c e))).andThen _).andThen _ = _
    rw [hsh]
    simp only [Result.andThen_ok, run_freeze, hfr, Sem.run_pure]
    rfl

end
end Go.Zs
/- A sound evaluator for the model's programs, twelfth part: maps. -/
namespace Go.Zs
open Go Go.RowKit

section
variable {w0 : Base} {ι : Emb} {h : Heap} {w : World} {E : Env}

theorem key_sound {b : Bool} : ∀ (d D : Nat), d ≤ D → ∀ (t : TypeId) (v : V) (v' : Value), dKey E d t v = true → VR ι v v' → (Instr.checkKey b D t v').run E.P w = .ok () w
  | 0, _, _, _, _, _, hd, _ => by simp [dKey] at hd
  | d + 1, 0, hle, _, _, _, _, _ => by omega
  | d + 1, D + 1, hle, t, v, v', hd, hv => by
    have ih := key_sound (b := b) d D (by omega)
    unfold dKey at hd
    unfold Instr.checkKey
    split at hd
    · rename_i hu; cases hv <;> simp [run_und hu]
    · rename_i hu; cases hv <;> simp [run_und hu]
    · rename_i hu; cases hv <;> simp [run_und hu]
    · rename_i fields hu
      split at hd
      · rename_i cs
        cases hv with
        | @agg _ cs' hc =>
        simp only [Sem.run_bind, run_und hu, Result.andThen_ok]
        rw [← Array.forIn_toList]
        generalize fields.toList = fs at hd
        clear hu
        induction fs with
        | nil => simp
        | cons f fs ihf =>
          simp only [List.all_cons, Bool.and_eq_true] at hd
          simp only [List.forIn_cons, Sem.run_bind]
          by_cases hn : f.name = "_"
          · have e : ¬ (f.name ≠ "_") := by simpa using hn
            simp only [if_neg e, Sem.run_pure, Result.andThen_ok]
            exact ihf hd.2
          · rw [if_neg hn] at hd
            have hd1 := hd.1
            split at hd1
            · rename_i x hx
              obtain ⟨x', hr, hxv⟩ := part_sound (w := w) hc hx
              have hk := ih _ _ _ hd1 hxv
              have e : f.name ≠ "_" := hn
              simp only [if_pos e, Sem.run_bind, hr, Result.andThen_ok, hk, Sem.run_pure]
              exact ihf hd.2
            · cases hd1
      · cases hd
    · cases hd

/-- What was found stands for what is found. -/
inductive FR (ι : Emb) : Option (Nat × V) → Option (Nat × Value) → Prop
  | none : FR ι none none
  | some {i : Nat} {v : V} {v' : Value} (h : VR ι v v') : FR ι (some (i, v)) (some (i, v'))

theorem findAsking_sound (hE : EnvOK E) (H : HR w0 ι h w) {t : TypeId} {k : V} {k' : Value} (hk : VR ι k k') : ∀ {es : List (V × V)} {es' : List MapEntry}, EsR ι es es' → ∀ {i : Nat} {r : Option (Nat × V)}, dFind E t k h es i = some r →
    ∃ r', (Instr.findAsking t k' es' i).run E.P w = .ok r' w ∧ FR ι r r'
  | _, _, .nil, i, r, hd => by simp only [dFind] at hd; cases hd; exact ⟨none, rfl, .none⟩
  | _, _, .cons (k := a) (v := b) hka hva t', i, r, hd => by
    simp only [dFind] at hd
    obtain ⟨s, hs, hd⟩ := bind_some hd
    have hr := equalV_sound hE H hs hk hka
    simp only [Instr.findAsking, Sem.run_bind, hr, Result.andThen_ok]
    cases s with
    | true => cases hd; exact ⟨_, rfl, .some hva⟩
    | false => exact findAsking_sound hE H hk t' hd

theorem sameNow_eq {t : TypeId} {d : TypeDesc} (hu : E.P.underlying t = some d) {k a : V} {k' a' : Value} {s b : Bool} (hk : VR ι k k') (ha : VR ι a a') (hn : Instr.sameNow d k' a' = some b) (hs : dEqual E 100 t k a h = some s) : s = b := by
  unfold dEqual at hs
  rw [hu] at hs
  unfold Instr.sameNow at hn
  split at hn
  · split at hn
    · rename_i hkk
      cases hn
      cases hk with
      | int =>
        cases ha with
        | int =>
          simp only at hs
          rw [if_pos hkk] at hs
          cases hs
          rfl
        | any => simp at hs
      | any => simp at hs
    · cases hn
  · cases hn
    cases hk with
    | str =>
      cases ha with
      | str =>
        simp only at hs
        cases hs
        rw [beqBytes_iff, beq_toListBytes, toList_data, toList_data]
      | any => simp at hs
    | any => simp at hs
  · cases hn
    cases hk with
    | bool =>
      cases ha with
      | bool => simp only at hs; cases hs; rfl
      | any => simp at hs
    | any => simp at hs
  · cases hn

theorem findNow_sound {t : TypeId} {d : TypeDesc} (hu : E.P.underlying t = some d) {k : V} {k' : Value} (hk : VR ι k k') : ∀ {es : List (V × V)} {es' : List MapEntry}, EsR ι es es' → ∀ {i : Nat} {r : Option (Nat × V)} {q : Option (Nat × Value)},
    dFind E t k h es i = some r → Instr.findNow d k' es' i = some q → FR ι r q
  | _, _, .nil, i, r, q, hd, hn => by simp only [dFind] at hd; simp only [Instr.findNow] at hn; cases hd; cases hn; exact .none
  | _, _, .cons (k := a) (v := b) hka hva t', i, r, q, hd, hn => by
    simp only [dFind] at hd
    simp only [Instr.findNow] at hn
    obtain ⟨s, hs, hd⟩ := bind_some hd
    split at hn
    · rename_i hsame
      have := sameNow_eq hu hk hka hsame hs
      subst this
      cases hd; cases hn; exact .some hva
    · rename_i hsame
      have := sameNow_eq hu hk hka hsame hs
      subst this
      exact findNow_sound hu hk t' hd hn
    · cases hn

theorem findKey_sound (hE : EnvOK E) (H : HR w0 ι h w) {t : TypeId} {d : TypeDesc} (hu : E.P.underlying t = some d) {k : V} {k' : Value} (hk : VR ι k k') {es : List (V × V)} {es' : List MapEntry} (he : EsR ι es es') {r : Option (Nat × V)} (hd : dFind E t k h es 0 = some r) :
    ∃ r', (Instr.findKey t k' es').run E.P w = .ok r' w ∧ FR ι r r' := by
  unfold Instr.findKey
  simp only [Sem.run_bind, run_und hu, Result.andThen_ok]
  split
  · rename_i q hq
    exact ⟨q, rfl, findNow_sound hu hk he hd hq⟩
  · exact findAsking_sound hE H hk he hd

theorem run_getMap {P : Program} {b : Nat} {es : Array MapEntry} {clock : Nat} (hb : w.heap[b]? = some (.map es clock)) : (getObj b).run P w = .ok (.map es clock) w := by
  simp [getObj, Sem.run, hb]

theorem run_setMap {P : Program} {b : Nat} {es es2 : Array MapEntry} {clock c2 : Nat} (hb : w.heap[b]? = some (.map es clock)) : (setObj b (.map es2 c2)).run P w = .ok () { w with heap := w.heap.setIfInBounds b (.map es2 c2) } := by
  simp [setObj, Sem.run, hb]

theorem turned_setMap (w : World) (b : Nat) (o : Obj) : Turned w { w with heap := w.heap.setIfInBounds b o } b :=
  ⟨rfl, rfl, rfl, by simp, fun k hk => by simp [Ne.symm hk]⟩

theorem set_get {w : World} {b : Nat} {o o' : Obj} (hb : w.heap[b]? = some o') : ({ w with heap := w.heap.setIfInBounds b o } : World).heap[b]? = some o := by
  have : b < w.heap.size := (Array.getElem?_eq_some_iff.1 hb).1
  simp [this]

theorem EsR.setVal : ∀ {es : List (V × V)} {es' : List MapEntry}, EsR ι es es' → ∀ (j : Nat) {k v : V} {k' v' : Value}, VR ι k k' → VR ι v v' → EsR ι (Zs.setVal es j k v) (es'.modify j fun e => { e with key := k', val := v' })
  | _, _, .nil, j, _, _, _, _, _, _ => by simpa [Zs.setVal] using EsR.nil
  | _, _, .cons hk hv t, 0, _, _, _, _, hk2, hv2 => by simpa [Zs.setVal] using EsR.cons hk2 hv2 t
  | _, _, .cons hk hv t, j + 1, _, _, _, _, hk2, hv2 => by simpa [Zs.setVal] using EsR.cons hk hv (t.setVal j hk2 hv2)

theorem born_modify {k v : Value} : ∀ (l : List MapEntry) (j : Nat), (l.modify j fun e => { e with key := k, val := v }).map (·.born) = l.map (·.born)
  | [], j => by simp
  | _ :: _, 0 => by simp
  | _ :: l, j + 1 => by simpa using born_modify l j

theorem born_erase : ∀ (l : List MapEntry) (j : Nat), (l.eraseIdx j).map (·.born) = (l.map (·.born)).eraseIdx j
  | [], j => by simp
  | _ :: _, 0 => by simp
  | _ :: l, j + 1 => by simpa using born_erase l j

theorem EsR.dropAt : ∀ {es : List (V × V)} {es' : List MapEntry}, EsR ι es es' → ∀ (j : Nat), EsR ι (Zs.dropAt es j) (es'.eraseIdx j)
  | _, _, .nil, j => by simpa [Zs.dropAt] using EsR.nil
  | _, _, .cons hk hv t, 0 => by simpa [Zs.dropAt] using t
  | _, _, .cons hk hv t, j + 1 => by simpa [Zs.dropAt] using EsR.cons hk hv (t.dropAt j)

theorem EsR.snoc : ∀ {es : List (V × V)} {es' : List MapEntry}, EsR ι es es' → ∀ {k v : V} {e : MapEntry}, VR ι k e.key → VR ι v e.val → EsR ι (es ++ [(k, v)]) (es' ++ [e])
  | _, _, .nil, _, _, _, hk, hv => .cons hk hv .nil
  | _, _, .cons hk hv t, _, _, _, hk2, hv2 => .cons hk hv (t.snoc hk2 hv2)

theorem EsR.get : ∀ {es : List (V × V)} {es' : List MapEntry}, EsR ι es es' → ∀ {j : Nat} {k v : V}, es[j]? = some (k, v) → ∃ e, es'[j]? = some e ∧ VR ι k e.key ∧ VR ι v e.val
  | _, _, .nil, j, _, _, h => by simp at h
  | _, _, .cons hk hv t, 0, _, _, h => by simp at h; obtain ⟨rfl, rfl⟩ := h; exact ⟨_, rfl, hk, hv⟩
  | _, _, .cons hk hv t, j + 1, _, _, h => by simpa using t.get (by simpa using h)

theorem EsR.length : ∀ {es : List (V × V)} {es' : List MapEntry}, EsR ι es es' → es.length = es'.length
  | _, _, .nil => rfl
  | _, _, .cons _ _ t => by simp [t.length]

theorem beqCell_bits {a b : V} {a' b' : Value} (h : beqCell a b = true) (ha : VR ι a a') (hb : VR ι b b') (n : Nat) : Instr.sameBits n a' b' = true := by
  unfold beqCell at h
  split at h
  · cases ha; cases hb; simpa [Instr.sameBits] using h
  · cases ha; cases hb; simpa [Instr.sameBits] using h
  · cases ha; cases hb
    rw [beqBytes_iff] at h
    simp only [Instr.sameBits]
    rw [beq_toListBytes, toList_data, toList_data]
    exact h
  · cases h

theorem beqCells_bits : ∀ {a b : List V} {a' b' : List Value}, beqCells a b = true → VRs ι a a' → VRs ι b b' → ∀ n, a'.length = b'.length ∧ (a'.zip b').all (fun x => Instr.sameBits n x.1 x.2) = true
  | _, _, _, _, h, .nil, .nil, n => by simp
  | _, _, _, _, h, .nil, .cons _ _, n => by simp [beqCells] at h
  | _, _, _, _, h, .cons _ _, .nil, n => by simp [beqCells] at h
  | _, _, _, _, h, .cons ha ta, .cons hb tb, n => by
    simp only [beqCells, Bool.and_eq_true] at h
    have := beqCells_bits h.2 ta tb n
    simp [this.1, beqCell_bits h.1 ha hb n]
    simpa using this.2

theorem beqV_bits {a b : V} {a' b' : Value} (h : beqV a b = true) (ha : VR ι a a') (hb : VR ι b b') : Instr.sameBits 10000 a' b' = true := by
  unfold beqV at h
  split at h
  · cases ha with
    | agg ha =>
    cases hb with
    | agg hb =>
    have := beqCells_bits h ha hb 9999
    simp only [Instr.sameBits]
    simp at this
    simp [this.1]
    simpa using this.2
  · exact beqCell_bits h ha hb _

theorem lookup_sound (hE : EnvOK E) (H : HR w0 ι h w) {t : TypeId} {x ix : V} {x' ix' : Value} {ok : Bool} {v : V} (hx : VR ι x x') (hi : VR ι ix ix') (hd : dLookup E t x ix ok h = some v) : Quiet E.P ι (Instr.lookup t x' ix' ok) w v := by
  unfold dLookup at hd
  split at hd
  · rename_i k e hu
    obtain ⟨hk, hd⟩ := bif_some hd
    obtain ⟨es, hes, hd⟩ := bind_some hd
    obtain ⟨r, hr, hd⟩ := bind_some hd
    have hkd : ∃ d, E.P.underlying k = some d := by
      unfold dKey at hk
      cases hq : E.P.underlying k with
      | none => rw [hq] at hk; simp at hk
      | some d => exact ⟨d, rfl⟩
    obtain ⟨kd, hkd⟩ := hkd
    have main : ∀ (vv : V) (vv' : Value) (b : Bool), VR ι vv vv' → v = (bif ok then V.tup [vv, .bool b] else vv) → VR ι v (if ok = true then .tuple #[vv', .bool b] else vv') := by
      intro vv vv' b hvv e
      subst e
      cases ok
      · exact hvv
      · exact .tup (.cons hvv (.cons (.bool b) .nil))
    have tail : ∀ es' : Array MapEntry, EsR ι es es'.toList → Quiet E.P ι (do
        Instr.checkKey es'.isEmpty 10000 k ix'
        let (v, f) ← match ← Instr.findKey k ix' es'.toList with
          | some (_, v) => pure (v, true)
          | none => pure (← zeroValue e, false)
        pure (if ok = true then .tuple #[v, .bool f] else v)) w v := by
      intro es' he
      obtain ⟨r', hf, hfr⟩ := findKey_sound hE H hkd hi he hr
      have hck := key_sound (ι := ι) (w := w) (b := es'.isEmpty) 100 10000 (by omega) k ix ix' hk hi
      cases hfr with
      | some hv =>
        simp only at hd
        exact ⟨_, by simp only [Sem.run_bind, hck, Result.andThen_ok, hf, Sem.run_pure], main _ _ true hv (Option.some.inj hd).symm⟩
      | none =>
        simp only at hd
        obtain ⟨z, hz, hd⟩ := map_some hd
        obtain ⟨z', hzr, rfl⟩ := run_zero hz
        exact ⟨_, by simp only [Sem.run_bind, hck, Result.andThen_ok, hf, hzr w, Sem.run_pure], main _ z' false (VR.ofValue z') hd.symm⟩
    unfold dMapOf at hes
    unfold Instr.lookup
    split at hes
    · cases hes; cases hx
      obtain ⟨v', hr', hv'⟩ := tail #[] .nil
      refine ⟨v', ?_, hv'⟩
      simp only [Sem.run_bind, run_und hu, Result.andThen_ok, Sem.run_pure] at hr' ⊢
      exact hr'
    · rename_i i
      split at hes
      · rename_i es2 bs cl hg
        cases hes
        cases hx with
        | @map _ p hp =>
        obtain ⟨q, hq, es', clock, hb, he, hbs, hcl⟩ := H.obj _ _ hg
        rw [hp] at hq; cases hq
        obtain ⟨v', hr', hv'⟩ := tail es' he
        refine ⟨v', ?_, hv'⟩
        simp only [Sem.run_bind, run_und hu, Result.andThen_ok, run_getMap hb, Sem.run_pure] at hr' ⊢
        exact hr'
      · cases hes
    · cases hes
  · cases hd

end
end Go.Zs
/- A sound evaluator for the model's programs, thirteenth part: append. -/
namespace Go.Zs
open Go Go.RowKit

theorem growBy_le (need : Nat) : ∀ (rounds c : Nat), c ≤ 2 * need + 1000 → Builtin.growBy need rounds c ≤ 2 * need + 1000
  | 0, c, h => by simpa [Builtin.growBy] using h
  | r + 1, c, h => by
    unfold Builtin.growBy
    split
    · exact h
    · exact growBy_le need r _ (by omega)

theorem nextcap_le {need old : Nat} (h : old < need) : Builtin.nextslicecap need old ≤ 2 * need + 1000 := by
  unfold Builtin.nextslicecap
  split
  · omega
  · split
    · omega
    · exact growBy_le _ _ _ (by omega)

section
variable {w0 : Base} {ι : Emb} {h : Heap} {w : World} {E : Env}

theorem first_sound (H : HR w0 ι h w) {P : Program} {size n : Nat} {x : V} {x' : Value} {cs : List V} (hx : VR ι x x') (hd : dFirst size n x h = some cs) :
    ∃ cs' : Array Value, (Builtin.firstCells size n x').run P w = .ok cs' w ∧ VRs ι cs cs'.toList := by
  unfold dFirst at hd
  split at hd
  · cases hd; cases hx; exact ⟨#[], rfl, .nil⟩
  · rename_i i o len lo es ex
    cases hx with
    | @sl _ _ _ _ _ off c _ p hp k1 k2 k3 k4 k5 k6 =>
    cases hb : Nat.beq (n * size) 0 with
    | true =>
      rw [hb] at hd; cases hd
      have := beq hb
      exact ⟨#[], by simp [Builtin.firstCells, this, loadCells, loadCellsFrom], .nil⟩
    | false =>
      rw [hb] at hd
      obtain ⟨cs2, hc, hd⟩ := bind_some hd
      obtain ⟨hb2, hd⟩ := bif_some hd
      cases hd
      simp only [Bool.and_eq_true] at hb2
      obtain ⟨k, hg⟩ := cells_some hc
      obtain ⟨vs', hr, hv, _⟩ := H.row (P := P) hg hp (ble hb2.2)
      have hne := bne hb
      have hn : n ≠ 0 := fun e => hne (by rw [e, Nat.zero_mul])
      have := ble hb2.1
      rw [k4 (by omega)]
      exact ⟨vs', hr, hv⟩
  · rename_i s
    cases hx with
    | str s =>
    obtain ⟨hb, hd⟩ := bif_some hd
    cases hd
    refine ⟨(s.extract 0 n).data.map fun b => .int .u8 b.toNat, rfl, ?_⟩
    rw [Array.toList_map]
    have e : (s.extract 0 n).data.toList = s.data.toList.take n := by simp [List.extract_eq_take_drop]
    rw [e]
    exact VRs.map_of (fun b => .int ..) _
  · cases hd

theorem first_len {size n : Nat} {a : Option (Nat × Nat)} {len lo es : Nat} {ex : Bool} {cs : List V} (hd : dFirst size n (.sl a len lo es ex) h = some cs) (ha : a.isSome = true) : cs.length = n * size := by
  unfold dFirst at hd
  split at hd
  · rename_i heq; cases heq; cases ha
  · by_cases hb : Nat.beq (n * size) 0 = true
    · rw [hb] at hd; cases hd; simp [beq hb]
    · rw [Bool.eq_false_iff.2 hb] at hd
      obtain ⟨cs2, hc, hd⟩ := bind_some hd
      obtain ⟨hb2, hd⟩ := bif_some hd
      cases hd
      simp only [Bool.and_eq_true] at hb2
      have := ble hb2.2
      simp; omega
  · rename_i heq; cases heq
  · cases hd

theorem lenOf_sound {P : Program} {x : V} {x' : Value} {n : Nat} (hx : VR ι x x') (hd : dLenOf x = some n) : (Builtin.lenOf x').run P w = .ok n w := by
  unfold dLenOf at hd
  split at hd
  · cases hd; cases hx <;> rfl
  · cases hd; cases hx; simp [Builtin.lenOf]
  · cases hd

theorem zeroCells_size (z : Array Value) (n : Nat) : (Builtin.zeroCells z n).size = n * z.size := by simp [Builtin.zeroCells]

/-- What is appended, as the model reckons it. -/
inductive App (E : Env) (w0 : Base) (ι : Emb) (h : Heap) (e : TypeId) (size n : Nat) (new : List V) : TypeDesc → Value → Prop
  | plain {d : TypeDesc} {x' : Value} (hd : (∃ u, d = .slice u) ∨ d = .string) (hl : ∀ w, (Builtin.lenOf x').run E.P w = .ok n w)
      (hn : ∀ w, HR w0 ι h w → ∃ new' : Array Value, (Builtin.firstCells size n x').run E.P w = .ok new' w ∧ VRs ι new new'.toList) : App E w0 ι h e size n new d x'
  | zeros {k k' : IntKind} (hl : n ≤ 1073741824) (z' : Value) (hz : ∀ w, (zeroValue e).run E.P w = .ok z' w) (h0 : n * size = 0 → new = []) (h1 : n * size ≠ 0 → VRs ι new (Builtin.zeroCells z'.cells n).toList) :
      App E w0 ι h e size n new (.int k) (.int k' (n : Int))

theorem app_of {e : TypeId} {info : TypeInfo} {d : TypeDesc} {x : V} {x' : Value} {n : Nat} {new : List V} {zr : Bool} (hi : E.P.info? e = some info) (hzr : isIntD d = some zr) (hx : VR ι x x')
    (hn : (bif zr then countV x else dLenOf x) = some n) (hnew : (bif zr then zerosB E e n else dFirst info.size n x h) = some new) (hle : n ≤ 1073741824) {z : V} (hz : zeroB E e = some z) :
    App E w0 ι h e info.size n new d x' := by
  unfold isIntD at hzr
  split at hzr
  · cases hzr
    simp only [cond_true] at hn hnew
    unfold countV at hn
    cases hx <;> first | (cases hn; done) | skip
    rename_i k m
    cases m with
    | negSucc m => cases hn
    | ofNat m =>
      cases hn
      obtain ⟨s2, hs2, hl, hzz⟩ := zeros_sound hnew
      have : s2 = info.size := by unfold sizeB at hs2; rw [hi] at hs2; cases hs2; rfl
      subst this
      obtain ⟨z', hzr, rfl⟩ := run_zero hz
      rcases hzz with ⟨h0, rfl⟩ | ⟨hne, z2, hr2, hsz2, hv2⟩
      · exact .zeros hle z' hzr (fun _ => rfl) (fun hne => absurd h0 hne)
      · exact .zeros hle z2 hr2 (fun h0 => absurd h0 hne) (fun _ => hv2 ι)
  · cases hzr
    simp only [cond_false] at hn hnew
    exact .plain (.inl ⟨_, rfl⟩) (fun w => lenOf_sound hx hn) (fun w H => first_sound H hx hnew)
  · cases hzr
    simp only [cond_false] at hn hnew
    exact .plain (.inr rfl) (fun w => lenOf_sound hx hn) (fun w H => first_sound H hx hnew)
  · cases hzr

section runs
variable {ts : Array TypeId} {ty t0 t1 e : TypeId} {d : TypeDesc} {info : TypeInfo} {base : Option Addr} {sLen sCap n : Nat} {x' : Value} {new : List V}

theorem zeros_bounds {bytes : Nat} (hn : n ≤ 1073741824) (hb : bytes ≤ 65536) : IntKind.i64.wrap (n : Int) = (n : Int) ∧ ¬ ((n : Int) < 0) ∧ ¬ ((n : Int) * (bytes : Int) > 2 ^ 48) := by
  refine ⟨by unfold IntKind.wrap; simp [IntKind.bits, IntKind.signed]; omega, by omega, ?_⟩
  have : n * bytes ≤ 1073741824 * 65536 := Nat.mul_le_mul hn hb
  have h2 : ((n * bytes : Nat) : Int) ≤ ((1073741824 * 65536 : Nat) : Int) := Int.ofNat_le.2 this
  simp only [Int.natCast_mul] at h2
  omega

/-- There is room. -/
theorem append_in (ht0 : ts[0]? = some t0) (ht1 : ts[1]? = some t1) (hu0 : E.P.underlying t0 = some (.slice e)) (hu1 : E.P.underlying t1 = some d) (hi : E.P.info? e = some info) (hb : info.bytes ≤ 65536) (A : App E w0 ι h e info.size n new d x') (H : HR w0 ι h w)
    (hle : sLen + n ≤ sCap) : ∃ new' : Array Value, VRs ι new new'.toList ∧ (Builtin.append_ ts ty #[.slice base sLen sCap, x']).run E.P w =
      match base with
      | some a => ((storeCells (a.add (sLen * info.size)) new'.toList).run E.P w).andThen fun _ w' => .ok (.slice base (sLen + n) sCap) w'
      | none => .ok (.slice base (sLen + n) sCap) w := by
  have hsz : (sizeOf e).run E.P w = .ok info.size w := run_size (by unfold sizeB; rw [hi]; rfl)
  unfold Builtin.append_
  cases A with
  | plain hd hl hn =>
    obtain ⟨new', hr, hv⟩ := hn w H
    refine ⟨new', hv, ?_⟩
    rcases hd with ⟨u, rfl⟩ | rfl <;>
    · simp only [ht0, ht1, List.getElem?_toArray, List.getElem?_cons_zero, List.getElem?_cons_succ, Sem.run_bind, run_und hu0, run_und hu1, Result.andThen_ok, hsz, Sem.run_pure, Bool.false_eq_true, if_false, hl w, Bool.not_false, if_true, hr, if_pos hle]
      cases base <;> simp
  | zeros hl z' hz h0 h1 =>
    obtain ⟨b1, b2, b3⟩ := zeros_bounds hl hb
    by_cases hz0 : n * info.size = 0
    · refine ⟨#[], by rw [h0 hz0]; exact .nil, ?_⟩
      simp only [ht0, ht1, List.getElem?_toArray, List.getElem?_cons_zero, List.getElem?_cons_succ, Sem.run_bind, run_und hu0, run_und hu1, Result.andThen_ok, hsz, Sem.run_pure, asInt, asIntOf, b1, if_neg b2, run_info hi, if_neg b3, Bool.not_true, Bool.false_eq_true, if_false, if_true, Int.toNat_natCast, if_pos hz0, if_pos hle]
      cases base <;> simp
    · refine ⟨_, h1 hz0, ?_⟩
      simp only [ht0, ht1, List.getElem?_toArray, List.getElem?_cons_zero, List.getElem?_cons_succ, Sem.run_bind, run_und hu0, run_und hu1, Result.andThen_ok, hsz, Sem.run_pure, asInt, asIntOf, b1, if_neg b2, run_info hi, if_neg b3, Bool.not_true, Bool.false_eq_true, if_false, if_true, Int.toNat_natCast, if_neg hz0, hz w, if_pos hle]
      cases base <;> simp

/-- There is none. -/
theorem append_grow (ht0 : ts[0]? = some t0) (ht1 : ts[1]? = some t1) (hu0 : E.P.underlying t0 = some (.slice e)) (hu1 : E.P.underlying t1 = some d) (hi : E.P.info? e = some info) (hb : info.bytes ≤ 65536) (A : App E w0 ι h e info.size n new d x') (H : HR w0 ι h w)
    {z' : Value} (hz' : ∀ w, (zeroValue e).run E.P w = .ok z' w) (hle : ¬ sLen + n ≤ sCap) (hmax : sLen + n ≤ 1073741824) {old' : Array Value} (ho : (Builtin.firstCells info.size sLen (.slice base sLen sCap)).run E.P w.drew = .ok old' w.drew) :
    ∃ (new' : Array Value) (cap : Nat), VRs ι new new'.toList ∧ sLen + n ≤ cap ∧ (Builtin.append_ ts ty #[.slice base sLen sCap, x']).run E.P w =
      .ok (.slice (some ⟨w.heap.size, 0, none⟩) (sLen + n) cap) (w.drew.alloc (.cells (old' ++ new' ++ Builtin.zeroCells z'.cells (cap - (sLen + n))) e)) := by
  have hsz : (sizeOf e).run E.P w = .ok info.size w := run_size (by unfold sizeB; rw [hi]; rfl)
  have m1 : ¬ (((sLen + n : Nat) : Int) > IntKind.i64.max) := by
    have : IntKind.i64.max = 9223372036854775807 := by decide
    rw [this]; omega
  have m2 : ¬ (Builtin.nextslicecap (sLen + n) sCap * info.bytes > 2 ^ 48) := by
    have := nextcap_le (need := sLen + n) (old := sCap) (by omega)
    have : Builtin.nextslicecap (sLen + n) sCap * info.bytes ≤ (2 * 1073741824 + 1000) * 65536 := Nat.mul_le_mul (by omega) hb
    omega
  have m3 : sLen + n ≤ (Question.appendCap (sLen + n) sCap e).cut (w.tape w.drawn (Question.appendCap (sLen + n) sCap e)) := by simp [Question.cut]
  unfold Builtin.append_
  cases A with
  | plain hd hl hn =>
    obtain ⟨new', hr, hv⟩ := hn w.drew H.drew
    refine ⟨new', _, hv, m3, ?_⟩
    rcases hd with ⟨u, rfl⟩ | rfl <;>
    · simp only [ht0, ht1, List.getElem?_toArray, List.getElem?_cons_zero, List.getElem?_cons_succ, Sem.run_bind, run_und hu0, run_und hu1, Result.andThen_ok, hsz, Sem.run_pure, Bool.false_eq_true, if_false, hl w, Bool.not_false, if_true, if_neg hle, run_info hi, m1, false_and, m2, run_choose, Question.forced, run_askRoom,
        World.drew_eq, ho, hr, hz' w.drew, newRow, run_newObj, World.alloc_eq, World.size_drew]
  | zeros hl z2 hz h0 h1 =>
    obtain rfl : z2 = z' := by have := (hz w).symm.trans (hz' w); cases this; rfl
    obtain ⟨b1, b2, b3⟩ := zeros_bounds hl hb
    by_cases hz0 : n * info.size = 0
    · refine ⟨#[], _, by rw [h0 hz0]; exact .nil, m3, ?_⟩
      simp only [ht0, ht1, List.getElem?_toArray, List.getElem?_cons_zero, List.getElem?_cons_succ, Sem.run_bind, run_und hu0, run_und hu1, Result.andThen_ok, hsz, Sem.run_pure, asInt, asIntOf, b1, if_neg b2, run_info hi, if_neg b3, Bool.not_true, Bool.false_eq_true, if_false, if_true, Int.toNat_natCast, if_pos hz0, if_neg hle,
        m1, false_and, m2, run_choose, Question.forced, run_askRoom, World.drew_eq, ho, hz' w.drew, newRow, run_newObj, World.alloc_eq, World.size_drew]
    · refine ⟨_, _, h1 hz0, m3, ?_⟩
      simp only [ht0, ht1, List.getElem?_toArray, List.getElem?_cons_zero, List.getElem?_cons_succ, Sem.run_bind, run_und hu0, run_und hu1, Result.andThen_ok, hsz, Sem.run_pure, asInt, asIntOf, b1, if_neg b2, run_info hi, if_neg b3, Bool.not_true, Bool.false_eq_true, if_false, if_true, Int.toNat_natCast, if_neg hz0, if_neg hle,
        m1, false_and, m2, run_choose, Question.forced, run_askRoom, World.drew_eq, ho, hz' w.drew, newRow, run_newObj, World.alloc_eq, World.size_drew]
end runs

theorem append_sound (H : HR w0 ι h w) {ts : Array TypeId} {ty : TypeId} {s x : V} {s' x' : Value} {r : V × Heap} (hs : VR ι s s') (hx : VR ι x x') (hd : dAppend E ts s x h = some r) : SemOK E.P w0 ι (Builtin.append_ ts ty #[s', x']) w r := by
  unfold dAppend at hd
  split at hd
  · rename_i e d a len lo es ex hu0 hu1
    obtain ⟨t0, ht0, hu0⟩ := bind_some hu0
    obtain ⟨t1, ht1, hu1⟩ := bind_some hu1
    obtain ⟨info, hinfo, hd1⟩ := bind_some hd
    clear hd
    obtain ⟨z, hz, hd2⟩ := bind_some hd1
    clear hd1
    obtain ⟨zr, hzr, hd3⟩ := bind_some hd2
    clear hd2
    obtain ⟨n, hn, hd4⟩ := bind_some hd3
    clear hd3
    obtain ⟨new, hnew, hd5⟩ := bind_some hd4
    clear hd4
    obtain ⟨hc, hd⟩ := bif_none hd5
    clear hd5
    simp only [Bool.or_eq_false_iff, Bool.not_eq_false'] at hc
    obtain ⟨⟨⟨⟨⟨c1, c2⟩, c3⟩, c4⟩, c5⟩, c6⟩ := hc
    have c1 := bne c1
    have c2 := ble c2
    have c3 := ble c3
    have c5 := beq c5
    have c6 := beq c6
    have A := app_of (w0 := w0) (h := h) hinfo hzr hx hn hnew (by omega) hz
    obtain ⟨z', hzrun, rfl⟩ := run_zero hz
    have hzc := (VR.ofValue (ι := ι) z').cells c4
    have hzs : z'.cells.size = info.size := by have := hzc.length; simp at this; omega
    by_cases hn0 : Nat.beq n 0 = true
    · rw [hn0] at hd
      obtain rfl := beq hn0
      cases hd
      obtain rfl : new = [] := List.eq_nil_of_length_eq_zero (by omega)
      cases hs with
      | slN =>
        obtain ⟨new', hv, hr⟩ := append_in (ty := ty) (base := none) (sLen := 0) (sCap := 0) ht0 ht1 hu0 hu1 hinfo c3 A H (Nat.le_refl _)
        exact .same H (.slN _) hr
      | @sl _ _ _ _ _ off c _ p hp k1 k2 k3 k4 k5 k6 =>
        obtain ⟨new', hv, hr⟩ := append_in (ty := ty) (base := some ⟨p.blk, off, none⟩) (sLen := len) (sCap := c) ht0 ht1 hu0 hu1 hinfo c3 A H (by omega)
        have : new'.toList = [] := by cases hv' : new'.toList with
          | nil => rfl
          | cons a b => rw [hv'] at hv; cases hv
        refine .same H (.sl hp k1 k2 k3 k4 k5 k6) ?_
        rw [hr, this]
        rfl
    · have hn0 := Bool.eq_false_iff.2 hn0
      rw [hn0] at hd
      have hn0 := bne hn0
      simp only [cond_false] at hd
      split at hd
      · obtain ⟨hb, hd⟩ := bif_some hd
        cases hd
        have hlo := beq hb
        cases hs with
        | slN =>
        obtain ⟨new', cap, hv, hcap, hr⟩ := append_grow (ty := ty) (base := none) (sLen := 0) (sCap := 0) ht0 ht1 hu0 hu1 hinfo c3 A H hzrun (by omega) (by omega) (old' := #[]) rfl
        have hl := hv.length
        simp only [Array.length_toList] at hl
        have hcell := H.drew.newRoom (e := e) (c := new') (r := Builtin.zeroCells z'.cells (cap - (0 + n))) hv
        refine ⟨_, _, _, H.le_add _, hcell, VR.new_sl _ h.next n n info.size cap false rfl (Nat.le_refl _) (by omega) (fun e => by cases e) ?_, ?_⟩
        · show cap * info.size ≤ new'.size + (Builtin.zeroCells z'.cells (cap - (0 + n))).size
          rw [zeroCells_size, hzs, ← hl, c6, ← Nat.add_mul]
          exact Nat.mul_le_mul_right _ (by omega)
        · rw [hr]
          simp
      · rename_i i o
        obtain ⟨hes, hd⟩ := bif_none hd
        simp only [Bool.not_eq_false'] at hes
        obtain rfl := beq hes
        cases hs with
        | @sl _ _ _ _ _ off c _ p hp k1 k2 k3 k4 k5 k6 =>
        by_cases hlo : Nat.ble (len + n) lo = true
        · rw [hlo] at hd
          have hlo := ble hlo
          obtain ⟨h2, hst, rfl⟩ := map_some hd
          obtain ⟨new', hv, hr⟩ := append_in (ty := ty) (base := some ⟨p.blk, off, none⟩) (sLen := len) (sCap := c) ht0 ht1 hu0 hu1 hinfo c3 A H (by omega)
          obtain ⟨w', hsr, H'⟩ := storeCells_sound (P := E.P) H hp hst hv
          refine ⟨ι, _, w', Emb.le_refl ι, H', .sl hp hlo k2 k3 k4 k5 k6, ?_⟩
          rw [hr]
          simp only [add_none, k4 (by omega), Nat.add_assoc] at hsr ⊢
          rw [hsr]
          rfl
        · have hlo := Bool.eq_false_iff.2 hlo
          rw [hlo] at hd
          simp only [cond_false] at hd
          have hlo : lo < len + n := by
            rcases Nat.lt_or_ge lo (len + n) with h1 | h1
            · exact h1
            · rw [Nat.ble_eq_true_of_le h1] at hlo; cases hlo
          obtain ⟨old, hold, hd⟩ := bind_some hd
          have hgrow : ∀ (k : Kd) (h2 : Heap) (H2 : HR w0 ι h2 w) (hnx : h2.next = h.next), ¬ len + n ≤ c → SemOK E.P w0 ι (Builtin.append_ ts ty #[.slice (some ⟨p.blk, off, none⟩) len c, x']) w (.sl (some (h.next, 0)) (len + n) (len + n) info.size false, h2.new (.cells (old ++ new) k)) := by
            intro k h2 H2 hnx hle
            obtain ⟨old', hor, hov⟩ := first_sound (P := E.P) H.drew (.sl hp k1 k2 k3 k4 k5 k6) hold
            obtain ⟨new', cap, hv, hcap, hr⟩ := append_grow (ty := ty) (base := some ⟨p.blk, off, none⟩) (sLen := len) (sCap := c) ht0 ht1 hu0 hu1 hinfo c3 A H hzrun hle c2 hor
            have hol := hov.length
            have hnl := hv.length
            simp only [Array.length_toList] at hol hnl
            have holl : old.length = len * info.size := first_len hold rfl
            have hov2 : VRs ι (old ++ new) (old' ++ new').toList := by rw [Array.toList_append]; exact hov.append hv
            have hcell := H2.drew.newRoom (e := e) (c := old' ++ new') (r := Builtin.zeroCells z'.cells (cap - (len + n))) hov2 k
            have hnx' : h2.next = h.next := hnx
            rw [hnx'] at hcell
            refine ⟨_, _, _, by have := H2.le_add ⟨w.drew.heap.size, 0, (old' ++ new').size + (Builtin.zeroCells z'.cells (cap - (len + n))).size⟩; rw [hnx'] at this; exact this, hcell,
              VR.new_sl _ h.next (len + n) (len + n) info.size cap false rfl (Nat.le_refl _) (by omega) (fun e => by cases e) ?_, ?_⟩
            · show cap * info.size ≤ (old' ++ new').size + (Builtin.zeroCells z'.cells (cap - (len + n))).size
              rw [zeroCells_size, hzs, Array.size_append, ← hol, ← hnl, c6, holl, ← Nat.add_mul, ← Nat.add_mul]
              exact Nat.mul_le_mul_right _ (by omega)
            · rw [hr]
              simp
          by_cases hex : ex = true
          · rw [hex] at hd
            cases hd
            exact hgrow .own h H rfl (by have := k3 hex; omega)
          · have hex := Bool.eq_false_iff.2 hex
            rw [hex] at hd
            simp only [cond_false] at hd
            split at hd
            · rename_i cs k hg
              obtain ⟨hb, hd⟩ := bif_some hd
              cases hd
              simp only [Bool.and_eq_true] at hb
              by_cases hcc : len + n ≤ c
              · obtain ⟨new', hv, hr⟩ := append_in (ty := ty) (base := some ⟨p.blk, off, none⟩) (sLen := len) (sCap := c) ht0 ht1 hu0 hu1 hinfo c3 A H hcc
                obtain ⟨q, hq, cc, e', fz, h1, h2, h3, h4, h5, h6⟩ := H.obj _ _ hg
                rw [hp] at hq; cases hq
                have hnl := hv.length
                have holl : old.length = len * info.size := first_len hold rfl
                obtain ⟨old', hor, hov⟩ := first_sound (P := E.P) H (.sl hp k1 k2 k3 k4 k5 k6) hold
                have hle1 : (len + n) * info.size ≤ c * info.size := Nat.mul_le_mul_right _ hcc
                rw [Nat.add_mul] at hle1
                obtain ⟨w', hsr, ht, hh⟩ := run_storeCells (P := E.P) new'.toList (off + len * info.size) 0 w cc e' fz h1 (by omega) (h5 hb.1) (all_one hv hb.2)
                have hm := H.move (o' := .cells (old ++ new) (k.low o lo)) (q := ⟨p.blk, off, c * info.size⟩) hg hp hb.1 rfl ht ⟨_, e', fz, hh, by simp; omega, by simp; omega, ?_, ?_, fun hk => by
                  obtain ⟨g1, g2, g3⟩ := Kd.low_own hk
                  have := h6 g3
                  have := k4 g2
                  exact ⟨(h6 g3).1, by show off = 0; omega⟩⟩
                · refine ⟨_, .slice (some ⟨p.blk, off, none⟩) (len + n) c, w', H.le_add _, hm, ?_, ?_⟩
                  · exact VR.sl (p := ⟨p.blk, off, c * info.size⟩) (Emb.add_same ι h.next ⟨p.blk, off, c * info.size⟩) (Nat.le_refl _) hcc (fun e => by cases e) (fun _ => rfl) (Nat.le_refl _) (Nat.le_refl _)
                  · rw [hr]
                    simp only [add_none]
                    rw [hsr]
                    rfl
                · -- the cells behind the store
                  have hrow : old'.toList = (cc.toList.drop off).take (len * info.size) := by
                    have hrun := run_loadCells_list (P := E.P) (w := w) ⟨p.blk, off, none⟩ ((cc.toList.drop off).take (len * info.size)) (by
                      intro j v hj
                      have hjn : j < len * info.size := by have := (List.getElem?_eq_some_iff.1 hj).1; simp at this; omega
                      rw [take_drop_get _ _ _ _ hjn] at hj
                      rw [add_none]
                      simpa [World.cell?, h1] using hj)
                    have hl : ((cc.toList.drop off).take (len * info.size)).length = len * info.size := by simp; omega
                    rw [hl] at hrun
                    have : (Builtin.firstCells info.size len (.slice (some ⟨p.blk, off, none⟩) len c)).run E.P w = (loadCells ⟨p.blk, off, none⟩ (len * info.size)).run E.P w := rfl
                    rw [this, hrun] at hor
                    cases hor
                    simp
                  show VRs ι (old ++ new) ((_ : Array Value).toList.drop off |>.take (old ++ new).length)
                  have e1 : ((cc.toList.take (off + len * info.size + 0) ++ new'.toList ++ cc.toList.drop (off + len * info.size + 0 + new'.toList.length)).toArray.toList.drop off).take (old ++ new).length = old'.toList ++ new'.toList := by
                    rw [hrow]
                    apply List.ext_getElem?
                    intro j
                    have hlen : (old ++ new).length = len * info.size + new'.toList.length := by simp [holl, hnl]
                    rw [hlen]
                    have hl2 : ((cc.toList.drop off).take (len * info.size)).length = len * info.size := by simp; omega
                    by_cases hj : j < len * info.size + new'.toList.length
                    · rw [take_drop_get _ _ _ _ hj]
                      rw [show (cc.toList.take (off + len * info.size + 0) ++ new'.toList ++ cc.toList.drop (off + len * info.size + 0 + new'.toList.length)).toArray.toList = cc.toList.take (off + len * info.size + 0) ++ new'.toList ++ cc.toList.drop (off + len * info.size + 0 + new'.toList.length) from by simp,
                        getElem?_splice cc.toList new'.toList (off + len * info.size + 0) (off + j) (by simp at hnl ⊢; omega)]
                      by_cases a1 : j < len * info.size
                      · rw [if_pos (show off + j < off + len * info.size + 0 from by omega), List.getElem?_append_left (by omega), take_drop_get _ _ _ _ a1]
                      · rw [if_neg (show ¬ off + j < off + len * info.size + 0 from by omega), if_pos (show off + j < off + len * info.size + 0 + new'.toList.length from by omega), List.getElem?_append_right (by omega), hl2]
                        congr 1; omega
                    · rw [List.getElem?_eq_none (by rw [List.length_take]; omega), List.getElem?_eq_none (by rw [List.length_append, hl2]; omega)]
                  rw [e1]
                  exact hov.append hv
                · intro hw j hj
                  refine h5 hb.1 j ?_
                  simp only [List.size_toArray, List.length_append, List.length_take, List.length_drop, Array.length_toList] at hj hnl
                  omega
              · exact hgrow (k.low o lo) (h.kill i) (H.kill i) rfl hcc
            · cases hd
  · cases hd

end
end Go.Zs
/- A sound evaluator for the model's programs, fourteenth part: the other builtins, conversions, the functions without a body. -/
namespace Go.Zs
open Go Go.RowKit

section
variable {w0 : Base} {ι : Emb} {h : Heap} {w : World} {E : Env}

theorem HR.same_heap (H : HR w0 ι h w) {w' : World} (ho : w'.os = w.os) (ht : w'.tape = w.tape) (hp : w'.output = w.output) (hs : w'.heap.size = w.heap.size) (hb : ∀ k : Nat, w'.heap[k]? = w.heap[k]?) : HR w0 ι h w' :=
  ⟨H.below.trans ⟨ho, ht, hp, Nat.le_of_eq hs.symm, fun k _ => hb k⟩, fun i p e => by rw [hs]; exact H.dom i p e, fun i o e => let ⟨p, a, b⟩ := H.obj i o e; ⟨p, a, b.same (hb _)⟩, H.own, H.sep, fun b hg => ⟨(H.gd b hg).1, (hb b.1).trans (H.gd b hg).2⟩, H.gs, H.gn, H.rv⟩

theorem mapUpdate_sound (hE : EnvOK E) (H : HR w0 ι h w) {t : TypeId} {x ix v : V} {x' ix' v' : Value} {h' : Heap} (hx : VR ι x x') (hi : VR ι ix ix') (hv : VR ι v v') (hd : dMapUpdate E t x ix v h = some h') :
    ∃ w', (Instr.mapUpdate t x' ix' v').run E.P w = .ok () w' ∧ HR w0 ι h' w' := by
  unfold dMapUpdate at hd
  split at hd
  · rename_i k e i hu
    obtain ⟨hk, hd⟩ := bif_some hd
    have hkd : ∃ d, E.P.underlying k = some d := by
      unfold dKey at hk
      cases hq : E.P.underlying k with
      | none => rw [hq] at hk; simp at hk
      | some d => exact ⟨d, rfl⟩
    obtain ⟨kd, hkd⟩ := hkd
    split at hd
    · rename_i es bs cl hg
      obtain ⟨r, hr, hd⟩ := bind_some hd
      cases hx with
      | @map _ p hp =>
      obtain ⟨q, hq, es', clock, hb, he, hbs, hcl⟩ := H.obj _ _ hg
      rw [hp] at hq; cases hq
      obtain ⟨r', hf, hfr⟩ := findKey_sound hE H hkd hi he hr
      have hck := key_sound (ι := ι) (w := w) (b := false) 100 10000 (by omega) k ix ix' hk hi
      unfold Instr.mapUpdate
      cases hfr with
      | @some j u u' hu' =>
        simp only at hd
        split at hd
        · rename_i old ov hold
          obtain ⟨hbq, hd⟩ := bif_some hd
          cases hd
          obtain ⟨en, hen, hko, _⟩ := he.get hold
          have hen' : es'[j]? = some en := by simpa using hen
          have hbits := beqV_bits hbq hko hi
          refine ⟨_, ?_, H.upd hg hp rfl (turned_setMap w p.blk (.map (es'.modify j fun e => { e with key := ix', val := v' }) clock)) ⟨_, _, set_get hb, ?_⟩⟩
          · simp only [Sem.run_bind, run_und hu, Result.andThen_ok, run_getMap hb, hck, hf, hen', Option.map_some, Option.getD_some, Instr.keyThatStays, hbits, if_true, Sem.run_pure]
            exact run_setMap hb
          · exact ⟨by rw [Array.toList_modify]; exact he.setVal j hi hv, by rw [Array.toList_modify, born_modify]; exact hbs, hcl⟩
        · cases hd
      | none =>
        simp only at hd
        cases hd
        refine ⟨_, ?_, H.upd hg hp rfl (turned_setMap w p.blk (.map (es'.push { key := ix', val := v', born := clock }) (clock + 1))) ⟨_, _, set_get hb, ?_⟩⟩
        · simp only [Sem.run_bind, run_und hu, Result.andThen_ok, run_getMap hb, hck, hf]
          exact run_setMap hb
        · exact ⟨by rw [Array.toList_push]; exact he.snoc hi hv, by rw [Array.toList_push, List.map_append, hbs, hcl]; rfl, by rw [hcl]⟩
    · cases hd
  · cases hd

theorem delete_sound (hE : EnvOK E) (H : HR w0 ι h w) {ts : Array TypeId} {ty : TypeId} {x k : V} {x' k' : Value} {r : V × Heap} (hx : VR ι x x') (hk : VR ι k k') (hd : dDelete E ts x k h = some r) :
    SemOK E.P w0 ι (Builtin.delete_ ts ty #[x', k']) w r := by
  unfold dDelete at hd
  split at hd
  · rename_i kt e hu
    obtain ⟨t0, ht0, hu⟩ := bind_some hu
    obtain ⟨hkk, hd⟩ := bif_some hd
    cases hd
    cases hx
    have hck := key_sound (ι := ι) (w := w) (b := true) 100 10000 (by omega) kt k k' hkk hk
    refine .same H (.tup .nil) ?_
    unfold Builtin.delete_
    simp only [ht0, List.getElem?_toArray, List.getElem?_cons_zero, List.getElem?_cons_succ, Sem.run_bind, run_und hu, Result.andThen_ok, hck, Sem.run_pure]
  · rename_i kt e i hu
    obtain ⟨t0, ht0, hu⟩ := bind_some hu
    obtain ⟨hkk, hd⟩ := bif_some hd
    have hkd : ∃ d, E.P.underlying kt = some d := by
      unfold dKey at hkk
      cases hq : E.P.underlying kt with
      | none => rw [hq] at hkk; simp at hkk
      | some d => exact ⟨d, rfl⟩
    obtain ⟨kd, hkd⟩ := hkd
    split at hd
    · rename_i es bs cl hg
      obtain ⟨r2, hr, hd⟩ := map_some hd
      cases hx with
      | @map _ p hp =>
      obtain ⟨q, hq, es', clock, hb, he, hbs, hcl⟩ := H.obj _ _ hg
      rw [hp] at hq; cases hq
      obtain ⟨r', hf, hfr⟩ := findKey_sound hE H hkd hk he hr
      have hck := key_sound (ι := ι) (w := w) (b := es'.isEmpty) 100 10000 (by omega) kt k k' hkk hk
      unfold Builtin.delete_
      cases hfr with
      | @some j u u' hu' =>
        simp only at hd
        cases hd
        refine ⟨ι, _, _, Emb.le_refl ι, H.upd hg hp rfl (turned_setMap w p.blk (.map (es'.eraseIdxIfInBounds j) clock)) ⟨_, _, set_get hb, ?_⟩, .tup .nil, ?_⟩
        · exact ⟨by rw [Array.toList_eraseIdxIfInBounds]; exact he.dropAt j, by rw [Array.toList_eraseIdxIfInBounds, born_erase, hbs], hcl⟩
        · simp only [ht0, List.getElem?_toArray, List.getElem?_cons_zero, List.getElem?_cons_succ, Sem.run_bind, run_und hu, Result.andThen_ok, run_getMap hb, hck, hf, run_setMap hb, Sem.run_pure]
      | none =>
        simp only at hd
        cases hd
        refine ⟨ι, _, _, Emb.le_refl ι, H.same_heap (w' := { w with heap := w.heap.setIfInBounds p.blk (.map es' clock) }) rfl rfl rfl (by simp) ?_, .tup .nil, ?_⟩
        · intro j
          by_cases hj : j = p.blk
          · subst hj; rw [set_get hb, hb]
          · exact (turned_setMap w p.blk _).block j hj
        · simp only [ht0, List.getElem?_toArray, List.getElem?_cons_zero, List.getElem?_cons_succ, Sem.run_bind, run_und hu, Result.andThen_ok, run_getMap hb, hck, hf, run_setMap hb, Sem.run_pure]
    · cases hd
  · cases hd

theorem len_sound (H : HR w0 ι h w) {ts : Array TypeId} {t ty : TypeId} {x : V} {x' : Value} {v : V} (ht : ts[0]? = some t) (hx : VR ι x x') (hd : dLen E t x h = some v) : Quiet E.P ι (Builtin.len_ ts ty #[x']) w v := by
  unfold dLen at hd
  unfold Builtin.len_
  split at hd
  · rename_i s hu
    cases hd
    cases hx
    refine ⟨_, ?_, .int ..⟩
    simp only [ht, List.getElem?_toArray, List.getElem?_cons_zero, Sem.run_bind, run_und hu, Result.andThen_ok, Sem.run_pure, goInt]
    simp
  · rename_i n e hu
    cases hd
    refine ⟨_, ?_, .int ..⟩
    simp only [ht, List.getElem?_toArray, List.getElem?_cons_zero, Sem.run_bind, run_und hu, Result.andThen_ok, Sem.run_pure, goInt]
  · rename_i e a n lo es ex hu
    cases hd
    cases hx <;> refine ⟨_, ?_, .int ..⟩ <;> simp only [ht, List.getElem?_toArray, List.getElem?_cons_zero, Sem.run_bind, run_und hu, Result.andThen_ok, Sem.run_pure, goInt]
  · rename_i k e hu
    cases hd
    cases hx
    refine ⟨_, ?_, .int ..⟩
    simp only [ht, List.getElem?_toArray, List.getElem?_cons_zero, Sem.run_bind, run_und hu, Result.andThen_ok, Sem.run_pure, goInt]
  · rename_i k e i hu
    split at hd
    · rename_i es bs cl hg
      cases hd
      cases hx with
      | @map _ p hp =>
      obtain ⟨q, hq, es', clock, hb, he, hbs, hcl⟩ := H.obj _ _ hg
      rw [hp] at hq; cases hq
      refine ⟨_, ?_, .int ..⟩
      have := he.length
      simp only [ht, List.getElem?_toArray, List.getElem?_cons_zero, Sem.run_bind, run_und hu, Result.andThen_ok, run_getMap hb, Sem.run_pure, goInt]
      rw [this]
      simp
    · cases hd
  · cases hd

theorem first_zero {size : Nat} {x : V} {cs : List V} (hd : dFirst size 0 x h = some cs) : cs = [] := by
  unfold dFirst at hd
  split at hd
  · cases hd; rfl
  · rw [Nat.zero_mul] at hd; cases hd; rfl
  · obtain ⟨_, hd⟩ := bif_some hd; cases hd; rfl
  · cases hd

theorem copy_sound (H : HR w0 ι h w) {ts : Array TypeId} {ty : TypeId} {d s : V} {d' s' : Value} {r : V × Heap} (hdd : VR ι d d') (hs : VR ι s s') (hd : dCopy E ts d s h = some r) : SemOK E.P w0 ι (Builtin.copy_ ts ty #[d', s']) w r := by
  unfold dCopy at hd
  split at hd
  · rename_i e a len lo es ex hu
    obtain ⟨t0, ht0, hu⟩ := bind_some hu
    obtain ⟨size, hsz, hd1⟩ := bind_some hd
    clear hd
    obtain ⟨m, hm, hd⟩ := bind_some hd1
    clear hd1
    obtain ⟨cs, hcs, hd2⟩ := bind_some hd
    clear hd
    obtain ⟨cs', hr, hv⟩ := first_sound (P := E.P) H hs hcs
    have hlen := lenOf_sound (P := E.P) (w := w) hs hm
    have hsz' := run_size (w := w) hsz
    unfold Builtin.copy_
    cases hdd with
    | slN =>
      simp only at hd2
      cases hd2
      refine .same H (.int ..) ?_
      simp only [ht0, List.getElem?_toArray, List.getElem?_cons_zero, List.getElem?_cons_succ, Sem.run_bind, run_und hu, Result.andThen_ok, hlen, hsz', hr, Sem.run_pure]
      rfl
    | @sl i o _ _ _ off c _ p hp k1 k2 k3 k4 k5 k6 =>
      simp only at hd2
      have hrr : ∀ w2, (storeCells ⟨p.blk, off, none⟩ cs'.toList).run E.P w = .ok () w2 → (Builtin.copy_ ts ty #[.slice (some ⟨p.blk, off, none⟩) len c, s']).run E.P w = .ok (.int .i64 ((min m len : Nat) : Int)) w2 := by
        intro w2 hst
        unfold Builtin.copy_
        simp only [ht0, List.getElem?_toArray, List.getElem?_cons_zero, List.getElem?_cons_succ, Sem.run_bind, run_und hu, Result.andThen_ok, hlen, hsz']
        have hr2 : (Builtin.firstCells size (m.min len) s').run E.P w = .ok cs' w := hr
        simp only [hr2, Result.andThen_ok, hst, Sem.run_pure]
        rfl
      by_cases h0 : Nat.beq cs.length 0 = true
      · rw [h0] at hd2
        cases hd2
        have e0 : cs'.toList = [] := by
          have := hv.length; have := beq h0
          exact List.eq_nil_of_length_eq_zero (by omega)
        exact .same H (.int ..) (hrr w (by rw [e0]; rfl))
      · rw [Bool.eq_false_iff.2 h0] at hd2
        obtain ⟨h2, hst, rfl⟩ := map_some hd2
        have hne : cs.length ≠ 0 := fun e => h0 (by rw [e]; rfl)
        have hn : min m len ≠ 0 := by
          intro e
          apply hne
          rw [e] at hcs
          rw [first_zero hcs]
          rfl
        obtain ⟨w', hsr, H'⟩ := storeCells_sound (P := E.P) H hp hst hv
        rw [← k4 (by omega)] at hsr
        exact ⟨ι, _, w', Emb.le_refl ι, H', .int .., hrr w' hsr⟩
  · cases hd

theorem clear_sound (H : HR w0 ι h w) {ts : Array TypeId} {ty : TypeId} {x : V} {x' : Value} {r : V × Heap} (hx : VR ι x x') (hd : dClear E ts x h = some r) : SemOK E.P w0 ι (Builtin.clear_ ts ty #[x']) w r := by
  unfold dClear at hd
  unfold Builtin.clear_
  split at hd
  · rename_i d hu
    obtain ⟨t0, ht0, hu⟩ := bind_some hu
    cases hd; cases hx
    refine .same H (.tup .nil) ?_
    simp only [ht0, List.getElem?_toArray, List.getElem?_cons_zero, Sem.run_bind, run_und hu, Result.andThen_ok]
    cases d <;> rfl
  · rename_i d _ _ _ _ hu
    obtain ⟨t0, ht0, hu⟩ := bind_some hu
    cases hd; cases hx
    refine .same H (.tup .nil) ?_
    simp only [ht0, List.getElem?_toArray, List.getElem?_cons_zero, Sem.run_bind, run_und hu, Result.andThen_ok]
    cases d <;> rfl
  · rename_i d i hu
    obtain ⟨t0, ht0, hu⟩ := bind_some hu
    split at hd
    · rename_i es bs cl hg
      cases hd
      cases hx with
      | @map _ p hp =>
      obtain ⟨q, hq, es', clock, hb, he, hbs, hcl⟩ := H.obj _ _ hg
      rw [hp] at hq; cases hq
      refine ⟨ι, _, _, Emb.le_refl ι, H.upd hg hp rfl (turned_setMap w p.blk (.map #[] clock)) ⟨_, _, set_get hb, .nil, rfl, hcl⟩, .tup .nil, ?_⟩
      simp only [ht0, List.getElem?_toArray, List.getElem?_cons_zero, Sem.run_bind, run_und hu, Result.andThen_ok]
      cases d <;> simp only [Sem.run_bind, run_getMap hb, Result.andThen_ok, run_setMap hb, Sem.run_pure]
    · cases hd
  · rename_i e i o n lo es ex hu
    obtain ⟨t0, ht0, hu⟩ := bind_some hu
    cases hx with
    | @sl _ _ _ _ _ off c _ p hp k1 k2 k3 k4 k5 k6 =>
    by_cases h0 : Nat.beq n 0 = true
    · rw [h0] at hd
      cases hd
      obtain rfl := beq h0
      refine .same H (.tup .nil) ?_
      simp only [ht0, List.getElem?_toArray, List.getElem?_cons_zero, Sem.run_bind, run_und hu, Result.andThen_ok]
      rfl
    · rw [Bool.eq_false_iff.2 h0] at hd
      obtain ⟨z, hz, hd1⟩ := bind_some hd
      obtain ⟨hz0, hd2⟩ := bif_none hd1
      obtain ⟨h2, hst, rfl⟩ := map_some hd2
      obtain ⟨s, hs, hl, hzz⟩ := zeros_sound hz
      rcases hzz with ⟨_, rfl⟩ | ⟨hne, z', hr, hsz, hv⟩
      · simp at hz0
      · obtain ⟨w', hsr, H'⟩ := storeCells_sound (P := E.P) H hp hst (hv ι)
        have hn : n ≠ 0 := fun e => h0 (by rw [e]; rfl)
        rw [← k4 (by omega)] at hsr
        refine ⟨ι, _, w', Emb.le_refl ι, H', .tup .nil, ?_⟩
        simp only [ht0, List.getElem?_toArray, List.getElem?_cons_zero, Sem.run_bind, run_und hu, Result.andThen_ok]
        cases n with
        | zero => exact absurd rfl hn
        | succ n =>
          simp only [Sem.run_bind, hr w, Result.andThen_ok]
          have e2 : (Builtin.zeroCells z'.cells (n + 1)).toList = ((Array.range ((n + 1) * z'.cells.size)).map (z'.cells[· % z'.cells.size]!)).toList := rfl
          rw [e2, hsr]
          rfl
  · cases hd

theorem minmax_step {mx : Bool} : ∀ {xs : List V} {xs' : List Value} {a v : V} {a' : Value}, VRs ι xs xs' → VR ι a a' → xs.foldlM (fun a b => match a, b with
    | .int k x, .int _ y => some (.int k (bif mx then (if y > x then y else x) else (if y < x then y else x)))
    | _, _ => none) a = some v → Quiet E.P ι (xs'.foldlM (if mx then Builtin.max2 else Builtin.min2) a') w v
  | _, _, a, v, a', .nil, ha, hd => by
    simp at hd; subst hd
    exact ⟨a', by simp, ha⟩
  | _, _, a, v, a', .cons (v := b) (v' := b') hb t, ha, hd => by
    rw [List.foldlM_cons] at hd
    obtain ⟨c, hc, hd⟩ := bind_some hd
    rw [List.foldlM_cons]
    split at hc
    · cases hc
      cases ha; cases hb
      obtain ⟨v', hr, hv⟩ := minmax_step t (.int ..) hd
      refine ⟨v', ?_, hv⟩
      cases mx
      · simp only [Sem.run_bind, Bool.false_eq_true, if_false, Builtin.min2, Sem.run_pure, Result.andThen_ok] at hr ⊢
        exact hr
      · simp only [Sem.run_bind, if_true, Builtin.max2, Sem.run_pure, Result.andThen_ok] at hr ⊢
        exact hr
    · cases hc

theorem minmax_sound {mx : Bool} {ts : Array TypeId} {ty : TypeId} {xs : List V} {xs' : Array Value} {v : V} (hx : VRs ι xs xs'.toList) (hd : dMinMax mx xs = some v) : Quiet E.P ι ((if mx then Builtin.max_ else Builtin.min_) ts ty xs') w v := by
  unfold dMinMax at hd
  split at hd
  · cases hd
  · rename_i x rest
    generalize hl : xs'.toList = l at hx
    cases hx with
    | cons hh t =>
    have := minmax_step (E := E) (w := w) (mx := mx) t hh hd
    cases mx
    · simp only [Bool.false_eq_true, if_false] at this ⊢
      unfold Builtin.min_; rw [hl]; exact this
    · simp only [if_true] at this ⊢
      unfold Builtin.max_; rw [hl]; exact this

theorem convert_sound (H : HR w0 ι h w) {s d : TypeId} {x : V} {x' : Value} {r : V × Heap} (hx : VR ι x x') (hd : dConvert E s d x h = some r) : SemOK E.P w0 ι (convert s d x') w r := by
  unfold dConvert at hd
  unfold convert
  split at hd
  · rename_i sd k k2 n hs hdd
    cases hd; cases hx
    refine .same H (.int ..) ?_
    simp only [Sem.run_bind, run_und hs, run_und hdd, Result.andThen_ok]
    cases sd <;> rfl
  · rename_i sd s hs hdd
    cases hd; cases hx
    refine .same H (.str _) ?_
    simp only [Sem.run_bind, run_und hs, run_und hdd, Result.andThen_ok]
    cases sd <;> rfl
  · rename_i sd e s hs hdd
    split at hd
    · rename_i he
      obtain ⟨hb, hd⟩ := bif_some hd
      cases hd
      cases hx with
      | str s =>
      have hle := ble hb
      obtain ⟨κ, v', w', a, b, c, hr⟩ := stringToBytes_sound (E := E) (e := e) H s (by simpa using hle)
      refine ⟨κ, v', w', a, b, c, ?_⟩
      simp only [Sem.run_bind, run_und hs, run_und hdd, Result.andThen_ok]
      cases sd <;> simp only [Sem.run_bind, run_und he, Result.andThen_ok] <;> exact hr
    · cases hd
  · rename_i e _ _ _ _ hs hdd
    split at hd
    · rename_i he
      cases hd; cases hx
      refine .same H (.str' (b := .empty) rfl) ?_
      simp only [Sem.run_bind, run_und hs, run_und hdd, Result.andThen_ok, run_und he]
      rfl
    · cases hd
  · rename_i e i o len lo es ex hs hdd
    split at hd
    · rename_i he
      obtain ⟨cs, hc, hd1⟩ := bind_some hd
      obtain ⟨k, hg⟩ := cells_some hc
      have main : ∀ b, (len = 0 ∧ b = []) ∨ (o + len ≤ cs.length ∧ bytesOfVs ((cs.drop o).take len) = some b) → SemOK E.P w0 ι (convert s d x') w (.str b, h) := by
        intro b hb
        obtain ⟨v', hr, hv⟩ := bytesToString_sound (E := E) H hx hg hb
        refine .same H hv ?_
        cases hx with
        | sl =>
        unfold convert
        simp only [Sem.run_bind, run_und hs, run_und hdd, Result.andThen_ok, run_und he]
        exact hr
      unfold convert at main
      by_cases h0 : Nat.beq len 0 = true
      · rw [h0] at hd1
        cases hd1
        exact main [] (.inl ⟨beq h0, rfl⟩)
      · rw [Bool.eq_false_iff.2 h0] at hd1
        obtain ⟨hle, hd2⟩ := bif_some hd1
        obtain ⟨b, hb, rfl⟩ := map_some hd2
        exact main b (.inr ⟨ble hle, hb⟩)
    · cases hd
  · cases hd

end
end Go.Zs
/- A sound evaluator for the model's programs: iterators over maps. -/
namespace Go.Zs
open Go Go.RowKit

section
variable {w0 : Base} {ι : Emb} {h : Heap} {w : World} {E : Env}

theorem run_getIter {P : Program} {b : Nat} {m : Option Nat} {x l : Nat} {s : Array Nat} (hb : w.heap[b]? = some (.mapIter m x s l)) : (getObj b).run P w = .ok (.mapIter m x s l) w := by
  simp only [getObj, Sem.run, hb]

theorem run_setIter {P : Program} {b : Nat} {m : Option Nat} {x l : Nat} {s : Array Nat} {o' : Obj} (hb : w.heap[b]? = some (.mapIter m x s l)) : (setObj b o').run P w = .ok () { w with heap := w.heap.setIfInBounds b o' } := by
  simp only [setObj, Sem.run, hb]

theorem range_sound (H : HR w0 ι h w) {t : TypeId} {x : V} {x' : Value} {r : V × Heap} (hx : VR ι x x') (hd : dRange E t x h = some r) : SemOK E.P w0 ι (Instr.range t x') w r := by
  unfold dRange at hd
  split at hd
  · rename_i k e hu
    cases hd; cases hx
    refine ⟨_, _, _, H.le_add ⟨w.heap.size, 0, 0⟩, H.new (o := .iter none 0 [] 0) (o' := .mapIter none 0 #[] 0) (p := ⟨w.heap.size, 0, 0⟩) rfl ⟨none, heap_alloc_new _ _, rfl, rfl⟩, .ptr (Emb.add_same ..), ?_⟩
    simp only [Instr.range, Sem.run_bind, run_und hu, Result.andThen_ok, Sem.run_pure]
    rfl
  · rename_i k e i hu
    split at hd
    · rename_i es bs cl hg
      cases hd
      cases hx with
      | @map _ p hp =>
      obtain ⟨q, hq, es', clock, hb, he, hbs, hcl⟩ := H.obj _ _ hg
      rw [hp] at hq; cases hq
      subst hcl
      refine ⟨_, _, _, H.le_add ⟨w.heap.size, 0, 0⟩, H.new (o := .iter (some i) clock [] clock) (o' := .mapIter (some p.blk) clock #[] clock) (p := ⟨w.heap.size, 0, 0⟩) rfl ⟨_, heap_alloc_new _ _, rfl, p, hp, rfl⟩, .ptr (Emb.add_same ..), ?_⟩
      simp only [Instr.range, Sem.run_bind, run_und hu, Result.andThen_ok, Sem.run_pure, run_getMap hb]
      rfl
    · cases hd
  · cases hd

theorem byStamp_find {b : Nat} : ∀ {es : List (V × V)} {bs : List Nat} {es' : List MapEntry} {e : V × V}, EsR ι es es' → es'.map (·.born) = bs → byStamp b es bs = some e → ∃ e', es'.find? (·.born == b) = some e' ∧ VR ι e.1 e'.key ∧ VR ι e.2 e'.val
  | _, _, _, _, .nil, hb, hd => by subst hb; simp [byStamp] at hd
  | _, _, _, e, .cons (e := e0) hk hv t, hb, hd => by
    subst hb
    simp only [List.map_cons, byStamp] at hd
    by_cases hc : e0.born = b
    · rw [T.beq_true hc, cond_true] at hd
      cases hd
      exact ⟨e0, by simp [hc], hk, hv⟩
    · rw [T.beq_false hc, cond_false] at hd
      obtain ⟨e', h1, h2⟩ := byStamp_find t rfl hd
      exact ⟨e', by simp [hc, h1], h2⟩

theorem entry_sound (H : HR w0 ι h w) {x : V} {x' : Value} {v : V} (hx : VR ι x x') (hd : dEntry x h = some v) : Quiet E.P ι (Instr.entry x') w v := by
  unfold dEntry at hd
  split at hd
  · rename_i j
    split at hd
    · rename_i m since seen last hgi
      split at hd
      · rename_i es bs cl hg
        obtain ⟨hcl1, hd1⟩ := bif_some hd
        obtain ⟨b, hlast, hd2⟩ := bind_some hd1
        obtain ⟨e, he, hd3⟩ := map_some hd2
        cases hx with
        | @ptr _ _ p hp =>
        obtain ⟨q, hq, mb, hbi, hbase, q2, hq2, hmb⟩ := H.obj _ _ hgi
        rw [hp] at hq; cases hq
        obtain ⟨q3, hq3, es', clock, hb, hes, hbs, hcl⟩ := H.obj _ _ hg
        rw [hq2] at hq3; cases hq3
        subst hmb
        obtain ⟨e', h1, h2, h3⟩ := byStamp_find hes hbs he
        have h1' : es'.find? (·.born == b) = some e' := by rw [← Array.find?_toList]; exact h1
        have hll : cl = last := Nat.eq_of_beq_eq_true hcl1
        subst hll; subst hcl
        refine ⟨.tuple #[e'.key, e'.val], ?_, by rw [← hd3]; exact .tup (.cons h2 (.cons h3 .nil))⟩
        rw [hbase]
        simp only [Instr.entry, Sem.run_bind, run_getIter hbi, Result.andThen_ok, List.back?_toArray, hlast, run_getMap hb, bne_self_eq_false, Bool.false_eq_true, if_false, h1', Sem.run_pure]
      · cases hd
    · cases hd
  · cases hd

/-- Entries that are left stand for entries that are left. -/
inductive LsR (ι : Emb) : List (V × V × Nat) → List MapEntry → Prop
  | nil : LsR ι [] []
  | cons {k v : V} {e : MapEntry} {l : List (V × V × Nat)} {l' : List MapEntry} (hk : VR ι k e.key) (hv : VR ι v e.val) (t : LsR ι l l') : LsR ι ((k, v, e.born) :: l) (e :: l')

theorem LsR.get : ∀ {l : List (V × V × Nat)} {l' : List MapEntry}, LsR ι l l' → ∀ (j : Nat) (hj : j < l'.length), ∃ k v, (k, v, l'[j].born) ∈ l ∧ VR ι k l'[j].key ∧ VR ι v l'[j].val
  | _, _, .nil, j, hj => by simp at hj
  | _, _, .cons hk hv t, 0, _ => ⟨_, _, List.mem_cons_self .., hk, hv⟩
  | _, _, .cons hk hv t, j + 1, hj => by
    obtain ⟨k, v, h1, h2, h3⟩ := t.get j (by simpa using hj)
    exact ⟨k, v, List.mem_cons_of_mem _ h1, h2, h3⟩

theorem LsR.length : ∀ {l : List (V × V × Nat)} {l' : List MapEntry}, LsR ι l l' → l.length = l'.length
  | _, _, .nil => rfl
  | _, _, .cons _ _ t => by simp [t.length]

theorem any_beq (seen : List Nat) (c : Nat) : seen.any (Nat.beq c) = seen.contains c := by
  induction seen with
  | nil => rfl
  | cons a l ih =>
    simp only [List.any_cons, List.contains_cons, ih]
    congr 1
    by_cases hc : c = a
    · subst hc; simp
    · rw [T.beq_false hc]; simp [hc]

theorem leftB_spec {seen : List Nat} : ∀ {es : List (V × V)} {bs : List Nat} {es' : List MapEntry}, EsR ι es es' → es'.map (·.born) = bs → LsR ι (leftB seen es bs) (es'.filter fun e => !seen.contains e.born)
  | _, _, _, .nil, hb => by subst hb; exact .nil
  | _, _, _, .cons (e := e0) hk hv t, hb => by
    subst hb
    have ih := leftB_spec (seen := seen) t rfl
    simp only [List.map_cons, leftB, any_beq]
    rw [List.filter_cons]
    cases hc : seen.contains e0.born with
    | true => simpa using ih
    | false => simpa using LsR.cons hk hv ih

/-- The next step of an iterator is one of those reckoned. -/
theorem nexts_sound (H : HR w0 ι h w) {x : V} {x' : Value} {outs : List (V × Heap)} (ty : TypeId) (hx : VR ι x x') (hd : dNexts x h = some outs) :
    ∃ o ∈ outs, ∃ v' w', (Instr.next x' false ty).run E.P w = .ok v' w' ∧ HR w0 ι o.2 w' ∧ VR ι o.1 v' := by
  unfold dNexts at hd
  split at hd
  · rename_i j
    split at hd
    · rename_i a b c hgi
      cases hd
      cases hx with
      | @ptr _ _ p hp =>
      obtain ⟨q, hq, mb, hbi, hbase, hmb⟩ := H.obj _ _ hgi
      rw [hp] at hq; cases hq
      subst hmb
      refine ⟨_, List.mem_singleton.2 rfl, .tuple #[.bool false], w, ?_, H, .tup (.cons (.bool false) .nil)⟩
      rw [hbase]
      simp only [Instr.next, Sem.run_bind, run_getIter hbi, Result.andThen_ok, Sem.run_pure]
    · rename_i m since seen last hgi
      split at hd
      · rename_i es bs cl hg
        obtain ⟨hchk, hd1⟩ := bif_some hd
        rw [Bool.and_eq_true] at hchk
        cases hx with
        | @ptr _ _ p hp =>
        obtain ⟨q, hq, mb, hbi, hbase, q2, hq2, hmb⟩ := H.obj _ _ hgi
        rw [hp] at hq; cases hq
        obtain ⟨q3, hq3, es', clock, hb, hes, hbs, hcl⟩ := H.obj _ _ hg
        rw [hq2] at hq3; cases hq3
        subst hmb; subst hcl
        have hold : ∀ x ∈ es'.toList, x.born < since := by
          intro x hx
          have h1 := List.all_eq_true.1 hchk.1 x.born (by rw [← hbs]; exact List.mem_map_of_mem hx)
          exact blt h1
        have hsl : since ≤ last := ble hchk.2
        have htest : (!seen.toArray.isEmpty && !es'.isEmpty && es'.all (fun x => decide (x.born ≥ last))) = false := by
          cases hemp : es'.isEmpty with
          | true => simp
          | false =>
            have hall : es'.all (fun x => decide (x.born ≥ last)) = false := by
              rw [Bool.eq_false_iff]
              intro hh
              rw [Array.all_eq_true_iff_forall_mem] at hh
              have h0 : 0 < es'.size := by
                rcases Nat.eq_zero_or_pos es'.size with h0 | h0
                · simp [Array.isEmpty, h0] at hemp
                · exact h0
              have hm : es'[0] ∈ es' := Array.getElem_mem h0
              have h1 := hh _ hm
              have h2 := hold es'[0] (by simp)
              simp at h1
              omega
            simp [hall]
        have hls := leftB_spec (seen := seen) hes hbs
        have hL : ∀ e, seen.toArray.contains e = seen.contains e := fun e => by simp
        rw [hbase]
        simp only [Instr.next, Sem.run_bind, run_getIter hbi, run_getMap hb, Result.andThen_ok, htest, Bool.false_eq_true, if_false, hL]
        have hLl : (es'.filter fun e => !seen.contains e.born).toList = es'.toList.filter fun e => !seen.contains e.born := by simp
        have hmem : ∀ x ∈ (es'.filter fun e => !seen.contains e.born).toList, x.born < since := fun x hx => hold x (by rw [hLl] at hx; exact (List.mem_filter.1 hx).1)
        rw [← hLl] at hls
        generalize (es'.filter fun e => !seen.contains e.born) = L at hls hmem
        have e1 : L.filter (fun x => decide (x.born < since)) = L := Array.filter_eq_self.2 (fun x hx => by simpa using hmem x (by simpa using hx))
        have e2 : L.filter (fun x => decide (x.born ≥ since)) = #[] := by
          rw [Array.filter_eq_empty_iff]
          intro x hx
          have := hmem x (by simpa using hx)
          simp
          omega
        simp only [e1, e2, Array.append_empty]
        split at hd1
        · rename_i hl
          cases hd1
          rw [hl] at hls
          have : L = #[] := by
            have := hls.length
            exact Array.eq_empty_of_size_eq_zero (by simpa using this.symm)
          subst this
          refine ⟨_, List.mem_singleton.2 rfl, .tuple #[.bool false], w, ?_, H, .tup (.cons (.bool false) .nil)⟩
          simp [choose, Sem.run, Question.forced]
        · rename_i hne
          cases hd1
          have hlen := hls.length
          have hpos : 0 < L.size := by
            rcases Nat.eq_zero_or_pos L.size with h0 | h0
            · exfalso
              apply hne
              apply List.eq_nil_of_length_eq_zero
              simpa [h0] using hlen
            · exact h0
          have hemp : L.isEmpty = false := by
            cases he : L.isEmpty with
            | false => rfl
            | true => simp at he; subst he; simp at hpos
          simp only [hemp, Bool.false_eq_true, if_false, Array.empty_append, Array.size_map]
          have hch : ∃ (k : Nat) (w1 : World), k < L.size ∧ HR w0 ι h w1 ∧ w1.heap = w.heap ∧ (choose (Question.mapNext L.size)).run E.P w = .ok k w1 := by
            by_cases hf : L.size ≤ 1
            · exact ⟨0, w, by omega, H, rfl, by simp [choose, Sem.run, Question.forced, hf]⟩
            · exact ⟨_, w.drew, Nat.mod_lt _ (by omega), H.drew, rfl, by
                simp only [choose, Sem.run, Question.forced, decide_eq_true_eq, hf, if_false, Question.cut]
                rfl⟩
          obtain ⟨k, w1, hk, H1, hheap, hrun⟩ := hch
          have hbi1 : w1.heap[p.blk]? = some (.mapIter (some q2.blk) since seen.toArray last) := by rw [hheap]; exact hbi
          obtain ⟨kk, vv, hmm, hvk, hvv⟩ := hls.get k (by simpa using hk)
          simp only [Array.getElem_toList] at hmm hvk hvv
          refine ⟨(.tup [.bool true, kk, vv], h.set j (.iter (some m) since (seen ++ [L[k].born]) clock)), List.mem_map.2 ⟨_, hmm, rfl⟩, .tuple #[.bool true, L[k].key, L[k].val], { w1 with heap := w1.heap.setIfInBounds p.blk (.mapIter (some q2.blk) since (seen.toArray.push L[k].born) clock) }, ?_, ?_, ?_⟩
          · simp only [hrun, Result.andThen_ok, Array.getElem?_map, Array.getElem?_eq_getElem hk, Option.map_some, Sem.run_bind, run_setIter hbi1, Sem.run_pure]
          · exact H1.upd hgi hp rfl (turned_setMap w1 p.blk _) ⟨_, by rw [set_get hbi1]; simp, hbase, q2, hq2, rfl⟩
          · exact .tup (.cons (.bool true) (.cons hvk (.cons hvv .nil)))
      · cases hd
    · cases hd
  · cases hd

end
end Go.Zs
