/- A sound evaluator for the model's programs, fourth part: how objects stand for the model's memory. -/
import Derived.Test.YtohbahdfbgndbaaGreatZsC
import Derived.Laws.Cells
namespace Go.Zs
open Go Go.RowKit

/-- Entries stand for entries. -/
inductive EsR (ι : Emb) : List (V × V) → List MapEntry → Prop
  | nil : EsR ι [] []
  | cons {k v : V} {e : MapEntry} {es : List (V × V)} {es' : List MapEntry} (hk : VR ι k e.key) (hv : VR ι v e.val) (t : EsR ι es es') : EsR ι ((k, v) :: es) (e :: es')

theorem EsR.mono {ι κ : Emb} (hl : Emb.le ι κ) : ∀ {a : List (V × V)} {b : List MapEntry}, EsR ι a b → EsR κ a b
  | _, _, .nil => .nil
  | _, _, .cons hk hv t => .cons (hk.mono hl) (hv.mono hl) (t.mono hl)

def Ob.wr : Ob → Bool
  | .cells _ k => k.wr
  | _ => true

/-- An object stands for what lies at its place. -/
def OR (ok : Code → Bool) (ι : Emb) (p : Pl) (o : Ob) (w : World) : Prop :=
  match o with
  | .cells cs k => ∃ c e fz, w.heap[p.blk]? = some (.cells c e fz) ∧ p.base + p.ext ≤ c.size ∧ cs.length ≤ p.ext ∧ VRs ι cs ((c.toList.drop p.base).take cs.length) ∧
      (k.wr = true → ∀ j, j < c.size → ¬ (fz.1 ≤ j ∧ j < fz.2)) ∧ (k = .own → fz.2 = 0)
  | .map es bs cl => ∃ es' clock, w.heap[p.blk]? = some (.map es' clock) ∧ EsR ι es es'.toList ∧ es'.toList.map (·.born) = bs ∧ clock = cl
  | .iter m since seen last => ∃ mb, w.heap[p.blk]? = some (.mapIter mb since seen.toArray last) ∧ p.base = 0 ∧ (match m with | none => mb = none | some i => ∃ q, ι i = some q ∧ mb = some q.blk)
  | .loop st pend n t ps assign body => ∃ r : Loop, w.heap[p.blk]? = some (.loop r) ∧ r.state = st.st ∧ r.pending = pend.code ∧ r.tmps.size = n ∧ (∀ k, VR ι (Tm.get t k) (r.tmps.getD k Go.undef)) ∧ r.params = ps.toArray ∧
      r.assign = assign ∧ r.body = body ∧ ok assign = true ∧ ok body = true

theorem OR.mono {ok : Code → Bool} {ι κ : Emb} (hl : Emb.le ι κ) {p : Pl} {o : Ob} {w : World} (h : OR ok ι p o w) : OR ok κ p o w := by
  cases o with
  | cells cs k => obtain ⟨c, e, fz, h1, h2, h3, h4, h5⟩ := h; exact ⟨c, e, fz, h1, h2, h3, h4.mono hl, h5⟩
  | map es bs cl => obtain ⟨c, e, h1, h2, h3⟩ := h; exact ⟨c, e, h1, h2.mono hl, h3⟩
  | iter m s e l =>
    obtain ⟨mb, h1, h2, h3⟩ := h
    refine ⟨mb, h1, h2, ?_⟩
    cases m with
    | none => exact h3
    | some i => obtain ⟨q, h4, h5⟩ := h3; exact ⟨q, hl _ _ h4, h5⟩
  | loop st pend n t ps a b => obtain ⟨r, h1, h2, h3, h4, h5, h6⟩ := h; exact ⟨r, h1, h2, h3, h4, fun k => (h5 k).mono hl, h6⟩

theorem OR.same {ok : Code → Bool} {ι : Emb} {p : Pl} {o : Ob} {w w' : World} (hw : w'.heap[p.blk]? = w.heap[p.blk]?) (h : OR ok ι p o w) : OR ok ι p o w' := by
  cases o with
  | cells cs k => obtain ⟨c, e, fz, h1, r⟩ := h; exact ⟨c, e, fz, hw.trans h1, r⟩
  | map es bs cl => obtain ⟨c, e, h1, r⟩ := h; exact ⟨c, e, hw.trans h1, r⟩
  | iter m s e l => obtain ⟨mb, h1, r⟩ := h; exact ⟨mb, hw.trans h1, r⟩
  | loop st pend n t ps a b => obtain ⟨q, h1, r⟩ := h; exact ⟨q, hw.trans h1, r⟩

/-- What an evaluation stands on: the world when it began; blocks that keep what they hold; objects' numbers that are kept free; what is known of the code of a loop's round. -/
structure Base where
  w : World
  g : List (Nat × Obj)
  rs : List Nat
  ok : Code → Bool

/-- The memory of objects stands for the model's: below the first block all is as it was. -/
structure HR (w0 : Base) (ι : Emb) (h : Heap) (w : World) : Prop where
  below : Below w0.w.heap.size w0.w w
  dom : ∀ i p, ι i = some p → i < h.next ∧ p.blk < w.heap.size
  obj : ∀ i o, h.get i = some o → ∃ p, ι i = some p ∧ OR w0.ok ι p o w
  own : ∀ i o p, h.get i = some o → ι i = some p → o.wr = true → w0.w.heap.size ≤ p.blk
  sep : ∀ i j o u p q, h.get i = some o → h.get j = some u → ι i = some p → ι j = some q → i ≠ j → o.wr = true → p.blk ≠ q.blk
  gd : ∀ b, b ∈ w0.g → w0.w.heap.size ≤ b.1 ∧ w.heap[b.1]? = some b.2
  gs : ∀ b i o p, b ∈ w0.g → h.get i = some o → ι i = some p → p.blk ≠ b.1
  gn : (w0.g.map (·.1)).Nodup
  rv : ∀ i, i ∈ w0.rs → ι i = none ∧ i < h.next

section
variable {w0 : Base} {ι : Emb} {h : Heap} {w : World}

theorem HR.drew (H : HR w0 ι h w) : HR w0 ι h w.drew :=
  ⟨H.below.drew, H.dom, fun i o e => let ⟨p, a, b⟩ := H.obj i o e; ⟨p, a, b.same rfl⟩, H.own, H.sep, H.gd, H.gs, H.gn, H.rv⟩

/-- The place of the next object. -/
def Emb.add (ι : Emb) (i : Nat) (p : Pl) : Emb := fun j => if j = i then some p else ι j

theorem Emb.add_same (ι : Emb) (i : Nat) (p : Pl) : (ι.add i p) i = some p := by simp [Emb.add]

theorem HR.fresh (H : HR w0 ι h w) : ι h.next = none := by
  cases hn : ι h.next with
  | none => rfl
  | some p => exact absurd (H.dom _ _ hn).1 (Nat.lt_irrefl _)

theorem HR.le_add (H : HR w0 ι h w) (p : Pl) : Emb.le ι (ι.add h.next p) := by
  intro i q e
  unfold Emb.add
  rw [if_neg]
  · exact e
  · rintro rfl; rw [H.fresh] at e; cases e

theorem HR.lt (H : HR w0 ι h w) {i : Nat} {o : Ob} (e : h.get i = some o) : i < h.next := by
  obtain ⟨p, hp, _⟩ := H.obj _ _ e
  exact (H.dom _ _ hp).1

theorem heap_alloc_lt (w : World) (o : Obj) {k : Nat} (hk : k < w.heap.size) : (w.alloc o).heap[k]? = w.heap[k]? := Below.heap_alloc w o k hk

theorem heap_alloc_new (w : World) (o : Obj) : (w.alloc o).heap[w.heap.size]? = some o := by
  show (w.heap.push o)[w.heap.size]? = some o
  simp

/-- A new object in a new block. -/
theorem HR.new (H : HR w0 ι h w) {o : Ob} {o' : Obj} {p : Pl} (hb : p.blk = w.heap.size) (ho : OR w0.ok ι p o (w.alloc o')) :
    HR w0 (ι.add h.next p) (h.new o) (w.alloc o') := by
  have hl := H.le_add p
  have hgl : ∀ b, b ∈ w0.g → b.1 < w.heap.size := fun b hb => (Array.getElem?_eq_some_iff.1 (H.gd b hb).2).1
  refine ⟨H.below.alloc H.below.size o', ?_, ?_, ?_, ?_, fun b hb => ⟨(H.gd b hb).1, (heap_alloc_lt w o' (hgl b hb)).trans (H.gd b hb).2⟩, ?_, H.gn, fun i hi => ⟨by
    unfold Emb.add
    rw [if_neg (by have := (H.rv i hi).2; omega)]
    exact (H.rv i hi).1, by have := (H.rv i hi).2; show i < h.next + 1; omega⟩⟩
  · intro i q e
    unfold Emb.add at e
    show i < h.next + 1 ∧ _
    rw [World.size_alloc]
    split at e
    · rename_i hi; cases e; exact ⟨by omega, by omega⟩
    · have := H.dom i q e; exact ⟨by omega, by omega⟩
  · intro i u e
    rw [Heap.get_new] at e
    split at e
    · rename_i hi; cases e; exact ⟨p, by rw [hi]; exact Emb.add_same .., ho.mono hl⟩
    · obtain ⟨q, hq, hr⟩ := H.obj i u e
      exact ⟨q, hl _ _ hq, (hr.same (heap_alloc_lt w o' (H.dom _ _ hq).2)).mono hl⟩
  · intro i u q e eq hw
    rw [Heap.get_new] at e
    unfold Emb.add at eq
    split at e
    · rename_i hi; rw [if_pos hi] at eq; cases eq; have := H.below.size; omega
    · rename_i hi; rw [if_neg hi] at eq; exact H.own i u q e eq hw
  · intro i j u v q r e e' hi hj hne hw
    rw [Heap.get_new] at e e'
    unfold Emb.add at hi hj
    split at e <;> split at e'
    · omega
    · rename_i h1 h2
      rw [if_pos h1] at hi; cases hi
      rw [if_neg h2] at hj
      have := (H.dom _ _ hj).2; omega
    · rename_i h1 h2
      rw [if_pos h2] at hj; cases hj
      rw [if_neg h1] at hi
      have := (H.dom _ _ hi).2; omega
    · rename_i h1 h2
      rw [if_neg h1] at hi; rw [if_neg h2] at hj
      exact H.sep i j u v q r e e' hi hj hne hw
  · intro b i u q hbg e eq
    rw [Heap.get_new] at e
    unfold Emb.add at eq
    split at e
    · rename_i hi; rw [if_pos hi] at eq; cases eq; have := hgl b hbg; omega
    · rename_i hi; rw [if_neg hi] at eq; exact H.gs b i u q hbg e eq

/-- One block has turned. -/
structure Turned (w w' : World) (b : Nat) : Prop where
  os : w'.os = w.os
  tape : w'.tape = w.tape
  output : w'.output = w.output
  size : w'.heap.size = w.heap.size
  block : ∀ k, k ≠ b → w'.heap[k]? = w.heap[k]?

theorem Turned.below {B b : Nat} {a : World} {w w' : World} (ht : Turned w w' b) (hb : Below B a w) (hB : B ≤ b) : Below B a w' :=
  hb.trans ⟨ht.os, ht.tape, ht.output, Nat.le_of_eq ht.size.symm, fun k hk => ht.block k (by omega)⟩

theorem turned_setCell (w : World) (a : Addr) (v : Value) : Turned w (w.setCell a v) a.block :=
  ⟨rfl, rfl, rfl, by simp, fun k hk => Below.heap_setCell _ _ _ _ hk⟩

/-- An object is written. -/
theorem HR.upd (H : HR w0 ι h w) {i : Nat} {o o' : Ob} {p : Pl} {w' : World} (hi : h.get i = some o) (hp : ι i = some p) (hw : o.wr = true) (ht : Turned w w' p.blk) (ho : OR w0.ok ι p o' w') :
    HR w0 ι (h.set i o') w' := by
  refine ⟨ht.below H.below (H.own _ _ _ hi hp hw), ?_, ?_, ?_, ?_, fun b hb => ⟨(H.gd b hb).1, (ht.block _ (Ne.symm (H.gs b _ _ _ hb hi hp))).trans (H.gd b hb).2⟩, ?_, H.gn, H.rv⟩
  · intro j q e; have := H.dom j q e; exact ⟨this.1, by rw [ht.size]; exact this.2⟩
  · intro j u e
    rw [Heap.get_set] at e
    split at e
    · rename_i hj; cases e; subst hj; exact ⟨p, hp, ho⟩
    · rename_i hj
      obtain ⟨q, hq, hr⟩ := H.obj j u e
      exact ⟨q, hq, hr.same (ht.block _ (Ne.symm (H.sep _ _ _ _ _ _ hi e hp hq (Ne.symm hj) hw)))⟩
  · intro j u q e eq hu
    rw [Heap.get_set] at e
    split at e
    · rename_i hj; subst hj; exact H.own _ _ _ hi eq hw
    · exact H.own _ _ _ e eq hu
  · intro j k u v q r e e' hj hk hne hu
    rw [Heap.get_set] at e e'
    split at e <;> split at e'
    · omega
    · rename_i h1 h2; subst h1; exact H.sep _ _ _ _ _ _ hi e' hj hk hne hw
    · rename_i h1 h2; subst h2; exact H.sep _ _ _ _ _ _ e hi hj hk hne hu
    · exact H.sep _ _ _ _ _ _ e e' hj hk hne hu
  · intro b j u q hb e eq
    rw [Heap.get_set] at e
    split at e
    · rename_i hj; subst hj; exact H.gs b _ _ _ hb hi eq
    · exact H.gs b _ _ _ hb e eq

theorem HR.kill (H : HR w0 ι h w) (i : Nat) : HR w0 ι (h.kill i) w := by
  have g : ∀ j o, (h.kill i).get j = some o → h.get j = some o := by
    intro j o e
    rw [Heap.get_kill] at e
    split at e
    · cases e
    · exact e
  exact ⟨H.below, H.dom, fun j o e => H.obj j o (g j o e), fun j o p e => H.own j o p (g j o e), fun j k o u p q e e' => H.sep j k o u p q (g _ _ e) (g _ _ e'), H.gd, fun b j o p hb e => H.gs b j o p hb (g _ _ e), H.gn, H.rv⟩

/-- An object goes on as another one in the same block. -/
theorem HR.move (H : HR w0 ι h w) {i : Nat} {o o' : Ob} {p q : Pl} {w' : World} (hi : h.get i = some o) (hp : ι i = some p) (hw : o.wr = true) (hq : q.blk = p.blk) (ht : Turned w w' p.blk) (ho : OR w0.ok ι q o' w') :
    HR w0 (ι.add h.next q) ((h.kill i).new o') w' := by
  have hl := H.le_add q
  have g : ∀ j u, j ≠ h.next → ((h.kill i).new o').get j = some u → j ≠ i ∧ h.get j = some u := by
    intro j u hj e
    rw [Heap.get_new, show (h.kill i).next = h.next from rfl, if_neg hj, Heap.get_kill] at e
    split at e
    · cases e
    · rename_i h1; exact ⟨h1, e⟩
  have gn : ∀ u, ((h.kill i).new o').get h.next = some u → u = o' := by
    intro u e
    rw [Heap.get_new, show (h.kill i).next = h.next from rfl, if_pos rfl] at e
    cases e; rfl
  have hin := H.lt hi
  refine ⟨ht.below H.below (H.own _ _ _ hi hp hw), ?_, ?_, ?_, ?_, fun b hb => ⟨(H.gd b hb).1, (ht.block _ (Ne.symm (H.gs b _ _ _ hb hi hp))).trans (H.gd b hb).2⟩, ?_, H.gn, fun i hi => ⟨by
    unfold Emb.add
    rw [if_neg (by have := (H.rv i hi).2; omega)]
    exact (H.rv i hi).1, by have := (H.rv i hi).2; show i < h.next + 1; omega⟩⟩
  · intro j r e
    unfold Emb.add at e
    show j < h.next + 1 ∧ _
    rw [ht.size]
    split at e
    · rename_i hj; cases e; have := (H.dom _ _ hp).2; exact ⟨by omega, by omega⟩
    · have := H.dom j r e; exact ⟨by omega, this.2⟩
  · intro j u e
    by_cases hj : j = h.next
    · subst hj; cases gn u e; exact ⟨q, Emb.add_same .., ho.mono hl⟩
    · obtain ⟨hji, e⟩ := g j u hj e
      obtain ⟨r, hr, hh⟩ := H.obj j u e
      exact ⟨r, hl _ _ hr, (hh.same (ht.block _ (Ne.symm (H.sep _ _ _ _ _ _ hi e hp hr (Ne.symm hji) hw)))).mono hl⟩
  · intro j u r e er hu
    unfold Emb.add at er
    split at er
    · cases er; rw [hq]; exact H.own _ _ _ hi hp hw
    · rename_i hj; exact H.own _ _ _ (g j u hj e).2 er hu
  · intro j k u v r s e e' hj hk hne hu
    unfold Emb.add at hj hk
    split at hj <;> split at hk
    · omega
    · rename_i h1 h2; cases hj; obtain ⟨hki, e'⟩ := g k v h2 e'; rw [hq]; exact H.sep _ _ _ _ _ _ hi e' hp hk (Ne.symm hki) hw
    · rename_i h1 h2; cases hk; obtain ⟨hji, e⟩ := g j u h1 e; rw [hq]; exact H.sep _ _ _ _ _ _ e hi hj hp hji hu
    · rename_i h1 h2; exact H.sep _ _ _ _ _ _ (g j u h1 e).2 (g k v h2 e').2 hj hk hne hu
  · intro b j u r hb e er
    unfold Emb.add at er
    split at er
    · cases er; rw [hq]; exact H.gs b _ _ _ hb hi hp
    · rename_i hj; exact H.gs b _ _ _ hb (g j u hj e).2 er

/-- An object is known no more, whatever becomes of its block. -/
theorem HR.drop (H : HR w0 ι h w) {i : Nat} {o : Ob} {p : Pl} {w' : World} (hi : h.get i = some o) (hp : ι i = some p) (hw : o.wr = true) (ht : Turned w w' p.blk) : HR w0 ι (h.kill i) w' := by
  have g : ∀ j u, (h.kill i).get j = some u → j ≠ i ∧ h.get j = some u := by
    intro j u e
    rw [Heap.get_kill] at e
    split at e
    · cases e
    · rename_i h1; exact ⟨h1, e⟩
  refine ⟨ht.below H.below (H.own _ _ _ hi hp hw), fun j q e => by have := H.dom j q e; exact ⟨this.1, by rw [ht.size]; exact this.2⟩, fun j u e => ?_, fun j u q e => H.own j u q (g j u e).2, fun j k u v q r e e' => H.sep j k u v q r (g _ _ e).2 (g _ _ e').2,
    fun b hb => ⟨(H.gd b hb).1, (ht.block _ (Ne.symm (H.gs b _ _ _ hb hi hp))).trans (H.gd b hb).2⟩, fun b j u q hb e => H.gs b j u q hb (g _ _ e).2, H.gn, H.rv⟩
  obtain ⟨hji, e⟩ := g j u e
  obtain ⟨r, hr, hh⟩ := H.obj j u e
  exact ⟨r, hr, hh.same (ht.block _ (Ne.symm (H.sep _ _ _ _ _ _ hi e hp hr (Ne.symm hji) hw)))⟩

/-- A block for deferred calls of which none comes. -/
def noCalls : Obj := .deferred (some [])

def Base.add (w0 : Base) (g : List Nat) : Base := { w0 with g := g.map (fun b => (b, noCalls)) ++ w0.g }

theorem Base.add_nil (w0 : Base) : w0.add [] = w0 := rfl
theorem Base.add_add (w0 : Base) (a b : List Nat) : (w0.add a).add b = w0.add (b ++ a) := by simp [Base.add]

/-- A block keeps what it holds. -/
def Base.keep (w0 : Base) (b : Nat) (o : Obj) : Base := { w0 with g := (b, o) :: w0.g }
/-- An object's number is kept free. -/
def Base.res (w0 : Base) (i : Nat) : Base := { w0 with rs := i :: w0.rs }

theorem HR.glt (H : HR w0 ι h w) {b : Nat × Obj} (hb : b ∈ w0.g) : b.1 < w.heap.size := (Array.getElem?_eq_some_iff.1 (H.gd b hb).2).1

/-- A block is laid that keeps what it holds. -/
theorem HR.keepNew (H : HR w0 ι h w) (o : Obj) : HR (w0.keep w.heap.size o) ι h (w.alloc o) := by
  refine ⟨H.below.alloc H.below.size _, fun i p e => ⟨(H.dom i p e).1, by rw [World.size_alloc]; have := (H.dom i p e).2; omega⟩, fun i o e => ?_, H.own, H.sep, fun b hb => ?_, fun b i o p hb e ep => ?_, ?_, H.rv⟩
  · obtain ⟨p, hp, hr⟩ := H.obj i o e
    exact ⟨p, hp, hr.same (heap_alloc_lt w _ (H.dom _ _ hp).2)⟩
  · rcases List.mem_cons.1 hb with rfl | hb
    · exact ⟨H.below.size, heap_alloc_new w _⟩
    · exact ⟨(H.gd b hb).1, (heap_alloc_lt w _ (H.glt hb)).trans (H.gd b hb).2⟩
  · rcases List.mem_cons.1 hb with rfl | hb
    · have := (H.dom i p ep).2; show p.blk ≠ w.heap.size; omega
    · exact H.gs b i o p hb e ep
  · refine List.nodup_cons.2 ⟨fun hm => ?_, H.gn⟩
    obtain ⟨c, hc, he⟩ := List.mem_map.1 hm
    have := H.glt hc
    simp only at he
    omega

theorem HR.guard (H : HR w0 ι h w) : HR (w0.add [w.heap.size]) ι h (w.alloc (.deferred (some []))) := H.keepNew _

/-- A block for deferred calls is shut. -/
theorem HR.unguard {b : Nat} {g : List Nat} {w' : World} (H : HR (w0.add (b :: g)) ι h w) (ht : Turned w w' b) : HR (w0.add g) ι h w' := by
  have hb := (H.gd (b, noCalls) (List.mem_cons_self ..))
  have hnd := List.nodup_cons.1 H.gn
  have ne : ∀ c, c ∈ (w0.add g).g → c.1 ≠ b := fun c hc hcb => hnd.1 (by rw [← hcb]; exact List.mem_map_of_mem (f := (·.1)) hc)
  refine ⟨ht.below H.below hb.1, fun i p e => ⟨(H.dom i p e).1, by rw [ht.size]; exact (H.dom i p e).2⟩, fun i o e => ?_, H.own, H.sep, fun c hc => ?_, fun c i o p hc => H.gs c i o p (List.mem_cons_of_mem _ hc), hnd.2, H.rv⟩
  · obtain ⟨p, hp, hr⟩ := H.obj i o e
    exact ⟨p, hp, hr.same (ht.block _ (H.gs (b, noCalls) i o p (List.mem_cons_self ..) e hp))⟩
  · exact ⟨(H.gd c (List.mem_cons_of_mem _ hc)).1, (ht.block _ (ne c hc)).trans (H.gd c (List.mem_cons_of_mem _ hc)).2⟩

/-- A number is kept free. -/
theorem HR.reserve (H : HR w0 ι h w) : HR (w0.res h.next) ι { h with next := h.next + 1 } w :=
  ⟨H.below, fun i p e => ⟨Nat.lt_succ_of_lt (H.dom i p e).1, (H.dom i p e).2⟩, H.obj, H.own, H.sep, H.gd, H.gs, H.gn, fun i hi => by
    rcases List.mem_cons.1 hi with rfl | hi
    · exact ⟨H.fresh, Nat.lt_succ_self _⟩
    · exact ⟨(H.rv i hi).1, Nat.lt_succ_of_lt (H.rv i hi).2⟩⟩

theorem Heap.get_setH (h : Heap) (i : Nat) (o : Ob) (j : Nat) : (h.set i o).get j = if j = i then some o else h.get j := Heap.get_set h i o j

/-- An object at a number that was kept free, in a new block. -/
theorem HR.newAt {id : Nat} (H : HR (w0.res id) ι h w) (hrs : id ∉ w0.rs) {o : Ob} {o' : Obj} {p : Pl} (hb : p.blk = w.heap.size) (ho : OR w0.ok ι p o (w.alloc o')) :
    Emb.le ι (ι.add id p) ∧ HR w0 (ι.add id p) (h.set id o) (w.alloc o') := by
  have hid := H.rv id (List.mem_cons_self ..)
  have hl : Emb.le ι (ι.add id p) := by
    intro i q e
    unfold Emb.add
    rw [if_neg]
    · exact e
    · rintro rfl; rw [hid.1] at e; cases e
  refine ⟨hl, H.below.alloc H.below.size o', ?_, ?_, ?_, ?_, fun b hb => ⟨(H.gd b hb).1, (heap_alloc_lt w o' (H.glt (w0 := w0.res id) hb)).trans (H.gd b hb).2⟩, ?_, H.gn, fun i hi => ⟨?_, (H.rv i (List.mem_cons_of_mem _ hi)).2⟩⟩
  · intro i q e
    unfold Emb.add at e
    rw [World.size_alloc]
    split at e
    · rename_i hi; cases e; subst hi; exact ⟨hid.2, by omega⟩
    · have := H.dom i q e; exact ⟨this.1, by omega⟩
  · intro i u e
    rw [Heap.get_setH] at e
    split at e
    · rename_i hi; cases e; exact ⟨p, by rw [hi]; exact Emb.add_same .., ho.mono hl⟩
    · obtain ⟨q, hq, hr⟩ := H.obj i u e
      exact ⟨q, hl _ _ hq, (hr.same (heap_alloc_lt w o' (H.dom _ _ hq).2)).mono hl⟩
  · intro i u q e eq hw
    rw [Heap.get_setH] at e
    unfold Emb.add at eq
    split at e
    · rename_i hi; rw [if_pos hi] at eq; cases eq; have : w0.w.heap.size ≤ w.heap.size := H.below.size; omega
    · rename_i hi; rw [if_neg hi] at eq; exact H.own i u q e eq hw
  · intro i j u v q r e e' hi hj hne hw
    rw [Heap.get_setH] at e e'
    unfold Emb.add at hi hj
    split at e <;> split at e'
    · omega
    · rename_i h1 h2
      rw [if_pos h1] at hi; cases hi
      rw [if_neg h2] at hj
      have := (H.dom _ _ hj).2; omega
    · rename_i h1 h2
      rw [if_pos h2] at hj; cases hj
      rw [if_neg h1] at hi
      have := (H.dom _ _ hi).2; omega
    · rename_i h1 h2
      rw [if_neg h1] at hi; rw [if_neg h2] at hj
      exact H.sep i j u v q r e e' hi hj hne hw
  · intro b i u q hbg e eq
    rw [Heap.get_setH] at e
    unfold Emb.add at eq
    split at e
    · rename_i hi; rw [if_pos hi] at eq; cases eq; have := H.glt (w0 := w0.res id) hbg; omega
    · rename_i hi; rw [if_neg hi] at eq; exact H.gs b i u q hbg e eq
  · unfold Emb.add
    rw [if_neg]
    · exact (H.rv i (List.mem_cons_of_mem _ hi)).1
    · rintro rfl; exact hrs hi

/-- An object of the call's own is looked away from: its block keeps what it holds. -/
theorem HR.hide {id : Nat} {cs : List V} (H : HR w0 ι (h.set id (.cells cs .own)) w) (hn : h.get id = none) :
    ∃ p c e fz, ι id = some p ∧ HR (w0.keep p.blk (.cells c e fz)) ι h w ∧ ∀ (κ : Emb) (w' : World), Emb.le ι κ → w'.heap[p.blk]? = some (.cells c e fz) → OR w0.ok κ p (.cells cs .own) w' := by
  have hg : (h.set id (.cells cs .own)).get id = some (.cells cs .own) := by rw [Heap.get_setH, if_pos rfl]
  obtain ⟨p, hp, c, e, fz, h1, h2⟩ := H.obj _ _ hg
  have ne : ∀ i o, h.get i = some o → i ≠ id := fun i o e hi => by subst hi; rw [hn] at e; cases e
  have up : ∀ i o, h.get i = some o → (h.set id (.cells cs .own)).get i = some o := fun i o e => by rw [Heap.get_setH, if_neg (ne i o e)]; exact e
  refine ⟨p, c, e, fz, hp, ⟨H.below, H.dom, fun i o e => H.obj i o (up i o e), fun i o q e => H.own i o q (up i o e), fun i j o u q r a b => H.sep i j o u q r (up i o a) (up j u b), fun b hb => ?_, fun b i o q hb e eq => ?_, ?_, H.rv⟩, fun κ w' hl hw' => ⟨c, e, fz, hw', h2.1, h2.2.1, ?_, h2.2.2.2⟩⟩
  · rcases List.mem_cons.1 hb with rfl | hb
    · exact ⟨H.own _ _ _ hg hp rfl, h1⟩
    · exact H.gd b hb
  · rcases List.mem_cons.1 hb with rfl | hb
    · exact Ne.symm (H.sep _ _ _ _ _ _ hg (up i o e) hp eq (Ne.symm (ne i o e)) rfl)
    · exact H.gs b i o q hb (up i o e) eq
  · refine List.nodup_cons.2 ⟨fun hm => ?_, H.gn⟩
    obtain ⟨b, hb, he⟩ := List.mem_map.1 hm
    exact H.gs b _ _ _ hb hg hp he.symm
  · exact h2.2.2.1.mono hl

/-- .. and is looked at again. -/
theorem HR.look {id : Nat} {cs : List V} {p : Pl} {o' : Obj} (H : HR (w0.keep p.blk o') ι h w) (hn : h.get id = none) (hp : ι id = some p) (ho : ∀ w' : World, w'.heap[p.blk]? = some o' → OR w0.ok ι p (.cells cs .own) w') :
    HR w0 ι (h.set id (.cells cs .own)) w := by
  have hb := H.gd (p.blk, o') (List.mem_cons_self ..)
  have hnd := List.nodup_cons.1 H.gn
  have sp : ∀ i u q, h.get i = some u → ι i = some q → q.blk ≠ p.blk := fun i u q e eq => H.gs (p.blk, o') i u q (List.mem_cons_self ..) e eq
  have old : w0.w.heap.size ≤ p.blk := hb.1
  refine ⟨H.below, H.dom, ?_, ?_, ?_, fun b hb => H.gd b (List.mem_cons_of_mem _ hb), ?_, hnd.2, H.rv⟩
  · intro i u e
    rw [Heap.get_setH] at e
    split at e
    · rename_i hi; cases e; exact ⟨p, by rw [hi]; exact hp, ho w hb.2⟩
    · exact H.obj i u e
  · intro i u q e eq hw
    rw [Heap.get_setH] at e
    split at e
    · rename_i hi; rw [hi, hp] at eq; cases eq; exact old
    · exact H.own i u q e eq hw
  · intro i j u v q r e e' hi hj hne hw
    rw [Heap.get_setH] at e e'
    split at e <;> split at e'
    · omega
    · rename_i h1 h2
      rw [h1, hp] at hi; cases hi
      exact Ne.symm (sp j v r e' hj)
    · rename_i h1 h2
      rw [h2, hp] at hj; cases hj
      exact sp i u q e hi
    · exact H.sep i j u v q r e e' hi hj hne hw
  · intro b i u q hb e eq
    rw [Heap.get_setH] at e
    split at e
    · rename_i hi; rw [hi, hp] at eq; cases eq
      intro hpb
      exact hnd.1 (List.mem_map.2 ⟨b, hb, hpb.symm⟩)
    · exact H.gs b i u q (List.mem_cons_of_mem _ hb) e eq

end
end Go.Zs
