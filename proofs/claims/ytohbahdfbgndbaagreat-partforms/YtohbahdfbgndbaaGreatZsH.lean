/- A sound evaluator for the model's programs, eighth part: equality, operators, conversions. -/
import Derived.Test.YtohbahdfbgndbaaGreatZsG
namespace Go.Zs
open Go Go.RowKit

theorem beqBytes_iff : ∀ (a b : List UInt8), beqBytes a b = (a == b)
  | [], [] => rfl
  | [], _ :: _ => rfl
  | _ :: _, [] => rfl
  | a :: x, b :: y => by
    have e : Nat.beq a.toNat b.toNat = (a == b) := by
      by_cases h : a = b
      · subst h; simp
      · have h1 : a.toNat ≠ b.toNat := fun e => h (UInt8.toNat_inj.1 e)
        rw [T.beq_false h1]; simp [h]
    simp only [beqBytes, e, beqBytes_iff x y]
    rfl

theorem toList_data (s : ByteArray) : s.toList = s.data.toList := ByteArray.toList_eq s

/-- What a function without a body does. -/
def Ext.run : Ext → Array Value → Sem Value
  | .add => Extern.Atomic.update (Op.intArith .add) .i64 true
  | .load => Extern.Atomic.loadT (.int .i64)
  | .store => Extern.Atomic.storeT

/-- What is asked of the program besides: the regions are fine. -/
structure BodyOK (E : Env) : Prop where
  fine : ∀ (f : Nat) fn c, E.P.funcs[f]? = some fn → fn.body = some c → E.fine.testBit f = true → okCode E c = true

/-- What is asked of the program: the types whose values are compared are plain; the functions without a body are what they are taken for; no function is the count of goroutines. -/
structure EnvOK (E : Env) : Prop where
  ext : ∀ f e, E.ext f = some e → ∃ fn, E.P.funcs[f]? = some fn ∧ fn.body = none ∧ (fn.name == "runtime.NumGoroutine") = false ∧ (Extern.findNext fn).isNone = true ∧ Extern.find fn = some e.run
  name : ∀ (f : Nat) fn, E.P.funcs[f]? = some fn → fn.body.isSome = true → (fn.name == "runtime.NumGoroutine") = false
  mixed : E.P.follows .mixedOrders = true
  eqs : ∀ t, t ∈ E.eqs → E.P.stoodInHeld t = false ∧ E.P.eqGuardType E.P.depth t = false

section
variable {w0 : Base} {ι : Emb} {h : Heap} {w : World} {E : Env}

theorem shape_of {P : Program} {b : Nat} {c : Array Value} {e : TypeId} {fz : Nat × Nat} (hb : w.heap[b]? = some (.cells c e fz)) : (shape b).run P w = .ok (some (e, c.size)) w := by
  simp [World.shape?, hb]

theorem frozen_own {P : Program} {b o : Nat} {s : Option Nat} {c : Array Value} {e : TypeId} {fz : Nat × Nat} (hb : w.heap[b]? = some (.cells c e fz)) (hz : fz.2 = 0) : (frozen ⟨b, o, s⟩).run P w = .ok false w := by
  obtain ⟨a, z⟩ := fz
  cases hz
  simp [World.frozen?, hb]

theorem eqFields_sound {d : Nat} {eq : TypeId → V → V → Option Bool} (heq : ∀ t x y x' y' r, eq t x y = some r → VR ι x x' → VR ι y y' → (Op.equalIn d t x' y').run E.P w = .ok r w)
    {xs ys : List V} {xs' ys' : Array Value} (hx : VRs ι xs xs'.toList) (hy : VRs ι ys ys'.toList) : ∀ (fs : List Field) (r : Bool), dEqF E eq xs ys fs = some r → (Op.eqFields d xs' ys' fs).run E.P w = .ok r w
  | [], r, hd => by simp only [dEqF] at hd; cases hd; rfl
  | f :: fs, r, hd => by
    simp only [dEqF] at hd
    simp only [Op.eqFields]
    by_cases hn : f.name = "_"
    · rw [if_pos hn] at hd
      rw [if_neg (by simpa using hn)]
      exact eqFields_sound heq hx hy fs r hd
    · rw [if_neg hn] at hd
      rw [if_pos hn]
      obtain ⟨a, ha, hd⟩ := bind_some hd
      obtain ⟨b, hb, hd⟩ := bind_some hd
      obtain ⟨s, hs, hd⟩ := bind_some hd
      obtain ⟨a', ra, va⟩ := part_sound (w := w) hx ha
      obtain ⟨b', rb, vb⟩ := part_sound (w := w) hy hb
      have re := heq _ _ _ _ _ _ hs va vb
      simp only [Sem.run_bind, ra, rb, re, Result.andThen_ok]
      cases s with
      | true => exact eqFields_sound heq hx hy fs r hd
      | false => cases hd; rfl

theorem equal_sound (hE : EnvOK E) (H : HR w0 ι h w) : ∀ (d D : Nat), d ≤ D → ∀ (t : TypeId) (x y : V) (x' y' : Value) (r : Bool), dEqual E d t x y h = some r → VR ι x x' → VR ι y y' →
    (Op.equalIn D t x' y').run E.P w = .ok r w
  | 0, _, _, _, _, _, _, _, _, hd, _, _ => by simp [dEqual] at hd
  | d + 1, 0, hle, _, _, _, _, _, _, _, _, _ => by omega
  | d + 1, D + 1, hle, t, x, y, x', y', r, hd, hx, hy => by
    have ih := equal_sound hE H d D (by omega)
    unfold dEqual at hd
    unfold Op.equalIn
    split at hd
    · rename_i a b hu
      cases hd; cases hx; cases hy
      simp [run_und hu]
    · rename_i k a k' b hu
      cases hx; cases hy
      split at hd
      · rename_i hk; cases hd
        subst hk
        simp [run_und hu]
        by_cases e : a = b <;> simp [e]
      · cases hd
    · rename_i a b hu
      cases hd; cases hx; cases hy
      rw [beqBytes_iff]
      simp [run_und hu, beq_toListBytes, toList_data]
    · rename_i e b hu
      cases hd; cases hx
      cases hy <;> simp [run_und hu]
    · rename_i e a hh hu
      cases hd; cases hy
      cases hx with
      | ptrN => exact absurd rfl hh
      | ptr hp => simp [run_und hu]
    · rename_i e i o j u hu
      obtain ⟨s, hs, hd⟩ := bind_some hd
      obtain ⟨hz, hd⟩ := bif_none hd
      cases hx with
      | @ptr _ _ p hp =>
      cases hy with
      | @ptr _ _ q hq =>
      simp only [Sem.run_bind, run_und hu, Result.andThen_ok, run_size hs]
      rw [if_pos (by simpa using bne hz)]
      unfold sameAddr
      cases hij : Nat.beq i j with
      | true =>
        rw [hij] at hd
        have := beq hij
        subst this
        rw [hp] at hq
        cases hq
        cases hd
        simp
        by_cases e : o = u
        · subst e; simp
        · rw [T.beq_false e]
          simp; omega
      | false =>
        rw [hij] at hd
        obtain ⟨hl, hd⟩ := bif_some hd
        cases hd
        simp only [Bool.and_eq_true, live] at hl
        obtain ⟨l1, l2⟩ := hl
        have hij := bne hij
        split at l1
        · rename_i cs hg1
          split at l2
          · rename_i cs2 hg2
            obtain ⟨p', hp', c1, e1, f1, a1, _, _, _, _, z1⟩ := H.obj _ _ hg1
            rw [hp] at hp'; cases hp'
            obtain ⟨q', hq', c2, e2, f2, a2, _, _, _, _, z2⟩ := H.obj _ _ hg2
            rw [hq] at hq'; cases hq'
            have hne := H.sep _ _ _ _ _ _ hg1 hg2 hp hq hij rfl
            have s1 := frozen_own (P := E.P) (o := p.base + o) (s := none) a1 (z1 rfl)
            have s2 := frozen_own (P := E.P) (o := q.base + u) (s := none) a2 (z2 rfl)
            have s3 := frozen_own (P := E.P) (o := c1.size) (s := none) a1 (z1 rfl)
            have s4 := frozen_own (P := E.P) (o := c2.size) (s := none) a2 (z2 rfl)
            have b1 := shape_of (P := E.P) a1
            have b2 := shape_of (P := E.P) a2
            have hbne : (p.blk == q.blk) = false := by simpa using hne
            simp only [hbne, Bool.false_eq_true, if_false, Sem.run_bind, s1, s2, Result.andThen_ok, noView, viewAt, b1, b2, mayBeOne, stringish, s3, s4, Sem.run_ite, Option.isSome_some, if_true, Sem.run_pure, Option.isSome_none, Bool.and_self, Bool.false_and, Bool.or_self]
          · cases l2
        · cases l1
    · rename_i e l1 l2 s1 x1 b l3 l4 s2 x2 hu
      cases hd
      cases hx
      cases hy <;> simp [run_und hu]
    · rename_i e a l1 l2 s1 x1 l3 l4 s2 x2 hh hu
      cases hd
      cases hy
      cases hx with
      | slN => exact absurd rfl hh
      | sl => simp [run_und hu]
    · rename_i a b c hu
      cases hd
      cases hx
      cases hy <;> simp [run_und hu]
    · rename_i a b c hh hu
      cases hd
      cases hy
      cases hx with
      | mapN => exact absurd rfl hh
      | map => simp [run_und hu]
    · rename_i a b c hu
      cases hd; cases hx; cases hy; simp [run_und hu]
    · rename_i a b c f g i hu
      cases hd; cases hx; cases hy; simp [run_und hu]
    · rename_i a b c f g i hu
      cases hd; cases hx; cases hy; simp [run_und hu]
    · rename_i fields xs ys hu
      obtain ⟨hm, hd⟩ := bif_some hd
      have hm' : t ∈ E.eqs := by simpa using hm
      cases hx with
      | @agg _ xs' hx =>
      cases hy with
      | @agg _ ys' hy =>
      have hf : E.P.fieldsOf t = fields := by simp [Program.fieldsOf, hu]
      have := run_equalIn_struct (P := E.P) w D t xs' ys' (by rw [hf]; exact hu) (hE.eqs t hm').1
      unfold Op.equalIn at this
      rw [this, hf]
      exact eqFields_sound ih hx hy fields.toList r hd
    · cases hd

end
end Go.Zs
