/- A sound evaluator for the model's programs, ninth part: operators, conversions. -/
import Derived.Test.YtohbahdfbgndbaaGreatZsH
namespace Go.Zs
open Go Go.RowKit

section
variable {w0 : Base} {ι : Emb} {h : Heap} {w : World} {E : Env}

theorem bits_sound {op : BinOp} {k : IntKind} {a b : Int} {v : V} (hd : dBits k op a b = some v) : Quiet E.P ι (Op.intBits op k a b) w v := by
  unfold dBits at hd
  cases op <;> (simp only at hd) <;> first | (cases hd; exact ⟨_, rfl, .int ..⟩) | cases hd

theorem int_sound {op : BinOp} {t : TypeId} {k : IntKind} {a b : Int} {v : V} (h1 : op ≠ .shl) (h2 : op ≠ .shr) (hd : dInt op k a b = some v) : Quiet E.P ι (binOp op t (.int k a) (.int k b)) w v := by
  unfold dInt at hd
  cases op <;> (simp only at hd) <;> first
    | exact absurd rfl h1
    | exact absurd rfl h2
    | (obtain ⟨v', hr, hv⟩ := bits_sound (E := E) (ι := ι) (w := w) hd; exact ⟨v', by simp only [binOp, ne_eq, not_true, if_false]; exact hr, hv⟩)
    | (split at hd
       · cases hd
       · rename_i hb; cases hd; exact ⟨_, by simp only [binOp, ne_eq, not_true, if_false, Op.intDiv, hb]; rfl, .int ..⟩)
    | (cases hd; first
        | exact ⟨_, by simp only [binOp, ne_eq, not_true, if_false, Op.intArith]; rfl, .int ..⟩
        | exact ⟨_, by simp only [binOp, ne_eq, not_true, if_false, Op.intCmp]; rfl, .bool _⟩)
    | cases hd

theorem shift_sound {op : BinOp} {t : TypeId} {k yk : IntKind} {a b : Int} {v : V} (hd : (match op with
    | .shl => if b < 0 then none else some (.int k (k.wrap (a * 2 ^ (min b.toNat k.bits))))
    | .shr => if b < 0 then none else some (.int k (a.fdiv (2 ^ (min b.toNat k.bits))))
    | _ => none) = some v) : Quiet E.P ι (binOp op t (.int k a) (.int yk b)) w v := by
  cases op <;> simp only [reduceCtorEq] at hd
  all_goals
    split at hd
    · cases hd
    · rename_i hb
      cases hd
      exact ⟨_, by simp only [binOp, Op.shift, hb, if_false]; rfl, .int ..⟩

theorem str_sound {op : BinOp} {t : TypeId} {a b : ByteArray} {v : V} (hd : dStr op a.data.toList b.data.toList = some v) : Quiet E.P ι (binOp op t (.string a) (.string b)) w v := by
  have hb : binOp op t (.string a) (.string b) = Op.stringOp op a b := by cases op <;> rfl
  rw [hb]
  unfold Op.stringOp
  rw [toList_data, toList_data]
  unfold dStr at hd
  rw [beqBytes_iff] at hd
  cases op <;> (simp only at hd) <;> first
    | (obtain ⟨hc, hd⟩ := bif_some hd
       cases hd
       have hc := ble hc
       refine ⟨.string (a ++ b), ?_, .str' (by simp)⟩
       simp only
       rw [if_neg]
       · rfl
       · have e1 : a.data.toList.length = a.size := by simp
         have e2 : b.data.toList.length = b.size := by simp
         rw [e1, e2] at hc
         have : IntKind.i64.max = 9223372036854775807 := by decide
         rw [this]; omega)
    | (cases hd; exact ⟨_, rfl, .bool _⟩)
    | cases hd

theorem equalV_sound (hE : EnvOK E) (H : HR w0 ι h w) {t : TypeId} {x y : V} {x' y' : Value} {r : Bool} (hd : dEqual E 100 t x y h = some r) (hx : VR ι x x') (hy : VR ι y y') : (Op.equal t x' y').run E.P w = .ok r w :=
  equal_sound hE H 100 10000 (by omega) t x y x' y' r hd hx hy

theorem binEql_run {t : TypeId} {x y : V} {x' y' : Value} {r : Bool} (hx : VR ι x x') (hy : VR ι y y') (hd : dEqual E 100 t x y h = some r) (hr : (Op.equal t x' y').run E.P w = .ok r w)
    (hi : ∀ k a k' b, ¬ (x = .int k a ∧ y = .int k' b)) (hs : ∀ a b, ¬ (x = .str a ∧ y = .str b)) :
    (binOp .eql t x' y').run E.P w = .ok (.bool r) w ∧ (binOp .neq t x' y').run E.P w = .ok (.bool (!r)) w := by
  have key : ∀ x' y', (∀ k a k' b, ¬ (x' = .int k a ∧ y' = .int k' b)) → (∀ a b, ¬ (x' = .string a ∧ y' = .string b)) → (∀ k a k' b, ¬ (x' = .float k a ∧ y' = .float k' b)) → (∀ k a b k' c d, ¬ (x' = .complex k a b ∧ y' = .complex k' c d)) →
      binOp .eql t x' y' = (do pure (.bool (← Op.equal t x' y'))) ∧ binOp .neq t x' y' = (do pure (.bool (!(← Op.equal t x' y')))) := by
    intro x' y' h1 h2 h3 h4
    constructor <;>
    · unfold binOp
      split <;> first
        | rfl
        | (exact absurd ⟨rfl, rfl⟩ (h1 _ _ _ _))
        | (exact absurd ⟨rfl, rfl⟩ (h2 _ _))
        | (exact absurd ⟨rfl, rfl⟩ (h3 _ _ _ _))
        | (exact absurd ⟨rfl, rfl⟩ (h4 _ _ _ _ _ _))
        | (rename_i h; cases h; done)
        | (simp_all; done)
  obtain ⟨k1, k2⟩ := key x' y' (by
      rintro k a k' b ⟨rfl, rfl⟩
      cases hx <;> cases hy <;> first | exact hi _ _ _ _ ⟨rfl, rfl⟩ | (unfold dEqual at hd; simp at hd; done) | (unfold dEqual at hd; split at hd <;> simp_all; done))
    (by
      rintro a b ⟨rfl, rfl⟩
      cases hx <;> cases hy <;> first | exact hs _ _ ⟨rfl, rfl⟩ | (unfold dEqual at hd; simp at hd; done) | (unfold dEqual at hd; split at hd <;> simp_all; done))
    (by
      rintro k a k' b ⟨rfl, rfl⟩
      cases hx; cases hy
      unfold dEqual at hd; split at hd <;> simp_all)
    (by
      rintro k a b k' c d ⟨rfl, rfl⟩
      cases hx; cases hy
      unfold dEqual at hd; split at hd <;> simp_all)
  rw [k1, k2]
  simp [hr]

theorem bin_sound (hE : EnvOK E) (H : HR w0 ι h w) {op : BinOp} {t : TypeId} {x y : V} {x' y' : Value} {v : V} (hx : VR ι x x') (hy : VR ι y y') (hd : dBin E op t x y h = some v) : Quiet E.P ι (binOp op t x' y') w v := by
  unfold dBin at hd
  split at hd
  · cases hx; cases hy; exact shift_sound (op := .shl) hd
  · cases hx; cases hy; exact shift_sound (op := .shr) hd
  · rename_i k a k' b n1 n2
    cases hx; cases hy
    split at hd
    · rename_i hk; subst hk
      exact int_sound n1 n2 hd
    · cases hd
  · cases hx; cases hy; exact str_sound hd
  · rename_i n1 n2
    obtain ⟨r, hr, rfl⟩ := map_some hd
    have := binEql_run (w := w) hx hy hr (equalV_sound hE H hr hx hy) (by rintro k a k' b ⟨rfl, rfl⟩; exact n1 _ _ _ _ rfl rfl) (by rintro a b ⟨rfl, rfl⟩; exact n2 _ _ rfl rfl)
    exact ⟨_, this.1, .bool _⟩
  · rename_i n1 n2
    obtain ⟨r, hr, rfl⟩ := map_some hd
    have := binEql_run (w := w) hx hy hr (equalV_sound hE H hr hx hy) (by rintro k a k' b ⟨rfl, rfl⟩; exact n1 _ _ _ _ rfl rfl) (by rintro a b ⟨rfl, rfl⟩; exact n2 _ _ rfl rfl)
    exact ⟨_, this.2, .bool _⟩
  · cases hd

end
end Go.Zs
