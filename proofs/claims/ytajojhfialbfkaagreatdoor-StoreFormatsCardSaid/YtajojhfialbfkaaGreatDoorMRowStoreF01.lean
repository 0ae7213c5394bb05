/- Words and small laws on worlds that all walks of this claim use: which blocks a call may turn ('Fr'), a block known whole. Plain: no program. -/
import Derived.WalkKit
import Derived.WalkSpells
import Derived.WalkLawsBesides
import Derived.BigQuiet
import Derived.Deep.QuietTactic
import Derived.StillTailTactics
import Derived.Deep.AppendLies
import Derived.Lib.Hide
import Derived.OrdersHeld
import Derived.Test.YtajojhfialbfkaaGreatDoorProg
import Derived.Lib.AppendStr
import Derived.Lib.ConvBytes
namespace Go.Proofs.YtajojhfialbfkaaGreatDoor
open Go.RowKit

/-- The world w' is w but for the blocks of F and new ones. -/
structure Fr (F : Nat → Prop) (w w' : World) : Prop where
  os : w'.os = w.os
  tape : w'.tape = w.tape
  output : w'.output = w.output
  size : w.heap.size ≤ w'.heap.size
  block : ∀ k, k < w.heap.size → ¬ F k → w'.heap[k]? = w.heap[k]?

section
variable {F G : Nat → Prop} {a b c w w' : World}

theorem Fr.refl (F : Nat → Prop) (w : World) : Fr F w w := ⟨rfl, rfl, rfl, Nat.le_refl _, fun _ _ _ => rfl⟩

theorem Fr.trans (h : Fr F a b) (k : Fr G b c) (hG : ∀ x, x < a.heap.size → G x → F x) : Fr F a c :=
  ⟨k.os.trans h.os, k.tape.trans h.tape, k.output.trans h.output, Nat.le_trans h.size k.size,
   fun x hx hn => (k.block x (Nat.lt_of_lt_of_le hx h.size) (fun g => hn (hG x hx g))).trans (h.block x hx hn)⟩

theorem Fr.mono (h : Fr F a b) (hG : ∀ x, x < a.heap.size → F x → G x) : Fr G a b :=
  ⟨h.os, h.tape, h.output, h.size, fun x hx hn => h.block x hx (fun f => hn (hG x hx f))⟩

theorem Fr.drew (h : Fr F a b) : Fr F a b.drew := ⟨h.os, h.tape, h.output, h.size, h.block⟩
theorem Fr.drewN (h : Fr F a b) (n : Nat) : Fr F a (b.drewN n) := ⟨h.os, h.tape, h.output, h.size, h.block⟩
theorem Fr.alloc (h : Fr F a b) (o : Obj) : Fr F a (b.alloc o) :=
  ⟨h.os, h.tape, h.output, by simp; have := h.size; omega, fun x hx hn => (Below.heap_alloc b o x (Nat.lt_of_lt_of_le hx h.size)).trans (h.block x hx hn)⟩
theorem Fr.setCell (h : Fr F a b) {p : Addr} (hp : p.block < a.heap.size → F p.block) (u : Value) : Fr F a (b.setCell p u) :=
  ⟨h.os, h.tape, h.output, by simpa using h.size, fun x hx hn => (Below.heap_setCell b p u x (fun e => hn (e ▸ hp (e ▸ hx)))).trans (h.block x hx hn)⟩
theorem Fr.of_grown {row : Option Nat} (hg : a.grownBy b row) (hr : ∀ k, row = some k → k < a.heap.size → F k) : Fr F a b :=
  ⟨hg.os, hg.tape, hg.output, hg.size, fun x hx hn => hg.block x hx (fun e => hn (hr x e.symm hx))⟩
theorem Fr.grown {row : Option Nat} (h : Fr F a b) (hg : b.grownBy c row) (hr : ∀ k, row = some k → k < a.heap.size → F k) : Fr F a c :=
  h.trans (G := fun k => row = some k) (Fr.of_grown hg (fun _ e _ => e)) (fun x hx e => hr x e hx)
theorem Fr.of_below (h : Below a.heap.size a b) : Fr F a b := ⟨h.os, h.tape, h.output, h.size, fun x hx _ => h.block x hx⟩
theorem Fr.below (h : Fr F a b) {B : Nat} (hF : ∀ x, x < a.heap.size → F x → B ≤ x) (hB : B ≤ a.heap.size) : Below B a b :=
  ⟨h.os, h.tape, h.output, h.size, fun x hx => h.block x (by omega) (fun f => by have := hF x (by omega) f; omega)⟩

theorem lt_of_blk {w : World} {b : Nat} {o : Obj} (h : w.heap[b]? = some o) : b < w.heap.size := (Array.getElem?_eq_some_iff.1 h).1

theorem Fr.blk (h : Fr F w w') {k : Nat} {o : Obj} (hk : w.heap[k]? = some o) (hn : ¬ F k) : w'.heap[k]? = some o :=
  (h.block k (lt_of_blk hk) hn).trans hk
theorem Fr.cell (h : Fr F w w') {p : Addr} {v : Value} (hc : w.cell? p = some v) (hn : ¬ F p.block) : w'.cell? p = some v :=
  (World.cell?_of_block (h.block p.block (World.block_lt_of_cell? w p hc) hn)).trans hc
end

section
variable {w : World} {b i : Nat} {cs : Array Value} {t : TypeId} {fr : Nat × Nat}

/-- A block known whole: its cells, all at once; none is frozen. -/
theorem cell_blk (h : w.heap[b]? = some (.cells cs t fr)) : ∀ i, w.cell? ⟨b, i, none⟩ = cs[i]? := by
  intro i; simp [World.cell?, h]
theorem frozen_blk (h : w.heap[b]? = some (.cells cs t (0, 0))) : ∀ i, w.frozen? ⟨b, i, none⟩ = false := by
  intro i; simp [World.frozen?, h]

theorem blk_alloc {o o' : Obj} (h : w.heap[b]? = some o) : (w.alloc o').heap[b]? = some o :=
  (Below.heap_alloc w o' b (lt_of_blk h)).trans h
theorem blk_alloc_new (w : World) (o : Obj) : (w.alloc o).heap[w.heap.size]? = some o := heap_alloc_new w o
theorem blk_drew {o : Obj} (h : w.heap[b]? = some o) : w.drew.heap[b]? = some o := h
theorem blk_set {v : Value} (h : w.heap[b]? = some (.cells cs t fr)) : (w.setCell ⟨b, i, none⟩ v).heap[b]? = some (.cells (cs.setIfInBounds i v) t fr) := by
  simp [World.setCell, Array.getElem?_modify, h]
theorem blk_far {o : Obj} {p : Addr} {v : Value} (h : w.heap[b]? = some o) (hne : b ≠ p.block) : (w.setCell p v).heap[b]? = some o :=
  (Below.heap_setCell w p v b hne).trans h
theorem ne_blk {b' : Nat} {cs' : Array Value} {t' : TypeId} {fr' : Nat × Nat} (h : w.heap[b]? = some (.cells cs t fr)) (h' : w.heap[b']? = some (.cells cs' t' fr')) (hne : t ≠ t') : b ≠ b' := by
  rintro rfl
  rw [h] at h'
  injection h' with h'
  injection h' with _ ht
  exact hne ht

theorem ownsRow_ne {B e size n : Nat} {v : Value} {xs : List Value} (hr : w.ownsRow B e size v n xs) (h : w.heap[b]? = some (.cells cs t fr)) (hne : t ≠ e) : v.ownBlock ≠ some b := by
  intro hv
  obtain ⟨_, ⟨rfl, _⟩ | ⟨g, cap, cur, rfl, _, h3, _⟩⟩ := hr
  · simp [Value.ownBlock] at hv
  · have : g = b := by simpa [Value.ownBlock] using hv
    subst this
    rw [h] at h3
    injection h3 with h3
    injection h3 with _ ht
    exact hne ht
theorem ownsRow_far {B e size n : Nat} {v : Value} {xs : List Value} (hr : w.ownsRow B e size v n xs) {p : Addr} (hne : v.ownBlock ≠ some p.block) (u : Value) : (w.setCell p u).ownsRow B e size v n xs := by
  obtain ⟨hl, ⟨rfl, rfl⟩ | ⟨g, cap, cur, rfl, h0, h3, h1, h2, h4, h5⟩⟩ := hr
  · exact ⟨hl, .inl ⟨rfl, rfl⟩⟩
  · exact ⟨hl, .inr ⟨g, cap, cur, rfl, h0, blk_far h3 (fun e => hne (by rw [← e]; rfl)), h1, h2, h4, h5⟩⟩
theorem ownsRow_form {B e size n : Nat} {v : Value} {xs : List Value} (h : w.ownsRow B e size v n xs) : ∃ ao cap, v = .slice ao n cap ∧ n ≤ cap ∧ cap ≤ maxLen := by
  obtain ⟨_, ⟨rfl, rfl⟩ | ⟨g, cap, cur, rfl, _, _, h1, h2, _⟩⟩ := h
  · exact ⟨none, 0, rfl, Nat.le_refl _, Nat.zero_le _⟩
  · exact ⟨_, cap, rfl, h1, h2⟩

theorem ownsRow_at {B e size n : Nat} {v : Value} {xs : List Value} (h : w.ownsRow B e size v n xs) (hn : 0 < n) : ∃ g cap cur, v = .slice (some ⟨g, 0, none⟩) n cap ∧ n ≤ cap ∧ cap ≤ maxLen ∧
    w.heap[g]? = some (.cells cur e (0, 0)) ∧ cur.size = cap * size ∧ cur.toList.take (n * size) = xs := by
  obtain ⟨_, ⟨_, rfl⟩ | ⟨g, cap, cur, rfl, _, h3, h1, h2, h4, h5⟩⟩ := h
  · omega
  · exact ⟨g, cap, cur, rfl, h1, h2, h3, h4, h5⟩

theorem ownsRow_fr {F : Nat → Prop} {w' : World} {B e size n : Nat} {v : Value} {xs : List Value} (h : w.ownsRow B e size v n xs) (hf : Fr F w w') (hn : ∀ k, v.ownBlock = some k → ¬ F k) : w'.ownsRow B e size v n xs := by
  obtain ⟨hl, ⟨rfl, rfl⟩ | ⟨g, cap, cur, rfl, h0, h3, h1, h2, h4, h5⟩⟩ := h
  · exact ⟨hl, .inl ⟨rfl, rfl⟩⟩
  · exact ⟨hl, .inr ⟨g, cap, cur, rfl, h0, hf.blk h3 (hn g rfl), h1, h2, h4, h5⟩⟩

theorem blk_grown {w' : World} {row : Option Nat} {o : Obj} (h : w.heap[b]? = some o) (hg : w.grownBy w' row) (hne : row ≠ some b) : w'.heap[b]? = some o :=
  (hg.block b (lt_of_blk h) (fun e => hne e.symm)).trans h
theorem blk_below {w' : World} {B : Nat} {o : Obj} (h : w.heap[b]? = some o) (hB : Below B w w') (hb : b < B) : w'.heap[b]? = some o := (hB.block b hb).trans h
end

theorem blk_new {w : World} {n : Nat} {o : Obj} (h : w.heap.size = n) : (w.alloc o).heap[n]? = some o := by subst h; exact blk_alloc_new _ _
theorem size_alloc {w : World} {n : Nat} {o : Obj} (h : w.heap.size = n) : (w.alloc o).heap.size = n + 1 := by subst h; simp

end Go.Proofs.YtajojhfialbfkaaGreatDoor
/- A region that draws its order of evaluation, walked once in the text's order: operations that only read (the same in every world that meets S) are taken first, each of the others is the only one that may come up when its turn has come; a tail, one behind the other, that waits for all of them. Plain: no program. -/
namespace Go.Proofs.YtajojhfialbfkaaGreatDoor
open Go.RowKit

section
variable {P : Program} {ops : Array Oper} {Q : Exit → Act → World → Prop} {md : Region.Mode} {S : World → Prop} {Fin : Act → World → Prop}

/-- A mark for each operation of the head: does it only read? Behind the head so many, one behind the other. -/
def mixB (md : Region.Mode) (ops : Array Oper) (g : Nat) : Nat → List Bool → Array Bool → Bool
  | k, [], listed => Region.seqB md ops g k listed
  | k, true :: r, listed => (Region.ready md ops listed).contains k && Region.free md ops listed k && mixB md ops g (k + 1) r (listed.setIfInBounds k true)
  | k, false :: r, listed => decide (Region.ready md ops listed = [k]) && mixB md ops g (k + 1) r (listed.setIfInBounds k true)

/-- An operation that yields one value in every world that meets S. -/
def Oper.pureIf (P : Program) (S : World → Prop) (o : Oper) (a : Act) (next : Act → Prop) : Prop :=
  ∃ v, (∀ w, S w → (execOp a.eval o).run P w = .ok (.value v) w) ∧ next (a.put o.dst v)

/-- The walk of the head. -/
def wpMix (P : Program) (ops : Array Oper) (Q : Exit → Act → World → Prop) (S : World → Prop) (Fin : Act → World → Prop) : List Oper → List Bool → Act → World → Prop
  | [], _, a, w => Fin a w
  | o :: l, true :: r, a, w => if Region.wanted o (yielded ops a.tmps) then Oper.pureIf P S o a (fun a' => wpMix P ops Q S Fin l r a' w) else wpMix P ops Q S Fin l r (a.put o.dst undef) w
  | o :: l, false :: r, a, w => if Region.wanted o (yielded ops a.tmps) then o.wp P a w (fun a' w' => S w' ∧ wpMix P ops Q S Fin l r a' w') Q ∨ (o.asks P a w ∧ LetsOut Q)
      else S w ∧ wpMix P ops Q S Fin l r (a.put o.dst undef) w
  | _ :: _, [], _, _ => False

/-- Whatever order is picked for the first operations (those below n), S holding behind each; then L. -/
def wpAnyT (P : Program) (md : Region.Mode) (ops : Array Oper) (Q : Exit → Act → World → Prop) (S : World → Prop) (n : Nat) (L : Array Bool → Act → World → Prop) : Nat → Array Bool → Act → World → Prop
  | 0, listed, a, w => L listed a w
  | f + 1, listed, a, w =>
    Region.ready md ops listed ≠ [] ∧ ∀ i ∈ Region.ready md ops listed, i < n ∧ wpOp P ops Q i (fun a' w' => S w' ∧ wpAnyT P md ops Q S n L f (listed.setIfInBounds i true) a' w') a w

theorem wpAny_of_T {n g : Nat} {L : Array Bool → Act → World → Prop} (hL : ∀ listed a w, L listed a w → wpAny P md ops Q g listed a w) :
    ∀ (f : Nat) (listed : Array Bool) (a : Act) (w : World), wpAnyT P md ops Q S n L f listed a w → wpAny P md ops Q (f + g) listed a w
  | 0, listed, a, w, h => by rw [Nat.zero_add]; exact hL _ _ _ h
  | f + 1, listed, a, w, h => by
    rw [show f + 1 + g = (f + g) + 1 by omega]
    exact ⟨fun h0 => absurd h0 h.1, fun i hi => wpOp_mono (fun a' w' h' => wpAny_of_T hL f _ a' w' h'.2) (h.2 i hi).2⟩

theorem wpAnyT_first {n i : Nat} {oi : Oper} {v : Value} {L : Array Bool → Act → World → Prop} (hi : ops[i]? = some oi) (hsel : ∀ (j : Nat) (o : Oper) cs b, ops[j]? = some o → o.op ≠ .select cs b)
    (hQ : ∀ c a w, Q (.panic c) (a.put oi.dst v) w → Q (.panic c) a w)
    (hlo : ∀ listed, HeadInv md ops n listed → listed.getD i true = false → ∀ j ∈ Region.ready md ops listed, j < n) (hin : i < n)
    (hdone : ∀ listed a w, L listed a w → ∀ j ∈ Region.ready md ops listed, n ≤ j) :
    ∀ (f : Nat) (listed : Array Bool) (a : Act) (w : World), HeadInv md ops n listed →
      (∀ j oj, ops[j]? = some oj → j ≠ i → listed.getD j true = false → (∀ e ∈ oj.after, Region.binds md e = true → e.on ≠ i) → oi.apart ops oj = true) →
      i ∈ Region.ready md ops listed → YieldsIf P ops S oi v a → S w →
      wpAnyT P md ops Q S n L f (listed.setIfInBounds i true) (a.put oi.dst v) w → wpAnyT P md ops Q S n L (f + 1) listed a w := by
  intro f
  induction f with
  | zero =>
    intro listed a w inv _ hr hy hS H
    have hun := (mem_ready.1 hr).1
    refine ⟨fun h => (by rw [h] at hr; cases hr), fun j hj => ?_⟩
    have hjn := hlo listed inv hun j hj
    refine ⟨hjn, ?_⟩
    by_cases hji : j = i
    · subst hji; exact hy.wpOp hi hS ⟨hS, H⟩
    · have := hdone _ _ _ H j (ready_mono hj hji)
      omega
  | succ f ih =>
    intro listed a w inv hfree hr hy hS H
    have hun := (mem_ready.1 hr).1
    refine ⟨fun h => (by rw [h] at hr; cases hr), fun j hj => ?_⟩
    have hjn := hlo listed inv hun j hj
    refine ⟨hjn, ?_⟩
    by_cases hji : j = i
    · subst hji; exact hy.wpOp hi hS ⟨hS, H⟩
    · have h1 := (H.2 j (ready_mono hj hji)).2
      obtain ⟨hjun, oj, hoj, hall⟩ := mem_ready.1 hj
      have hnot : ∀ e ∈ oj.after, Region.binds md e = true → e.on ≠ i := fun e he hb heq => by
        have h1 := hall e he hb
        rw [heq, getD_both hun] at h1
        cases h1
      have h2 := wpOp_putIf hoj (hfree j oj hoj hji hjun hnot) (fun cs b => hsel i oi cs b hi) (fun cs b => hsel j oj cs b hoj) hQ hy h1
      have hfree' : ∀ k ok, ops[k]? = some ok → k ≠ i → (listed.setIfInBounds j true).getD k true = false →
          (∀ e ∈ ok.after, Region.binds md e = true → e.on ≠ i) → oi.apart ops ok = true := fun k ok hk hki hun hno => by
        refine hfree k ok hk hki ?_ hno
        by_cases hjk : j = k
        · subst hjk; exact hjun
        · rw [getD_set_ne true hjk] at hun; exact hun
      refine wpOp_mono (fun a' w' h3 => ⟨h3.2.1, ih (listed.setIfInBounds j true) a' w' (inv.set hj hjn) hfree' (ready_mono hr (Ne.symm hji)) h3.1 h3.2.1 ?_⟩) h2
      rw [Array.setIfInBounds_comm _ _ hji]
      exact h3.2.2

theorem wpMix_T (hs : Region.noSelect ops = true) (hQ : ∀ c a d v w, Q (.panic c) (Act.put a d v) w → Q (.panic c) a w) {n g : Nat}
    (hlo : ∀ i, i < n → ∀ listed, HeadInv md ops n listed → listed.getD i true = false → ∀ j ∈ Region.ready md ops listed, j < n) :
    ∀ (l : List Oper) (r : List Bool) (k : Nat) (listed : Array Bool) (a : Act) (w : World), (∀ j, j < l.length → l[j]? = ops[k + j]?) → l.length = r.length → k + l.length = n → HeadInv md ops n listed →
      mixB md ops g k r listed = true → S w → wpMix P ops Q S Fin l r a w →
      wpAnyT P md ops Q S n (fun listed' a' w' => Region.seqB md ops g n listed' = true ∧ Fin a' w') l.length listed a w
  | [], [], k, listed, a, w, _, _, hk, _, hB, _, h => by
    have : k = n := by simpa using hk
    subst this
    exact ⟨by simpa [mixB] using hB, h⟩
  | [], _ :: _, _, _, _, _, _, hl, _, _, _, _, _ => by simp at hl
  | _ :: _, [], _, _, _, _, _, hl, _, _, _, _, _ => by simp at hl
  | o :: l, true :: r, k, listed, a, w, hj, hl, hk, inv, hB, hS, h => by
    have ho : ops[k]? = some o := by simpa using (hj 0 (by simp)).symm
    have hj' : ∀ j, j < l.length → l[j]? = ops[k + 1 + j]? := fun j hlt => by have := hj (j + 1) (by simp; omega); simpa [Nat.add_assoc, Nat.add_comm 1 j] using this
    have hl' : l.length = r.length := by simpa using hl
    have hk' : k + 1 + l.length = n := by simp only [List.length_cons] at hk; omega
    have hkn : k < n := by omega
    simp only [mixB, Bool.and_eq_true] at hB
    obtain ⟨⟨hr, hf⟩, hB'⟩ := hB
    have hr' : k ∈ Region.ready md ops listed := by simpa using hr
    simp only [wpMix] at h
    by_cases hw : Region.wanted o (yielded ops a.tmps) = true
    · simp only [hw, if_true] at h
      obtain ⟨v, h1, h2⟩ := h
      exact wpAnyT_first ho (Region.noSelect_spec hs) (fun c a w h => hQ c a o.dst v w h) (hlo k hkn) hkn (fun listed' a' w' hL => seqB_ready hL.1) l.length listed a w inv (Region.free_spec ho hf) hr' (.inl ⟨hw, h1⟩) hS
        (wpMix_T hs hQ hlo l r (k + 1) _ _ _ hj' hl' hk' (inv.set hr' hkn) hB' hS h2)
    · simp only [hw] at h
      exact wpAnyT_first ho (Region.noSelect_spec hs) (fun c a w h => hQ c a o.dst undef w h) (hlo k hkn) hkn (fun listed' a' w' hL => seqB_ready hL.1) l.length listed a w inv (Region.free_spec ho hf) hr' (.inr ⟨by simpa using hw, rfl⟩) hS
        (wpMix_T hs hQ hlo l r (k + 1) _ _ _ hj' hl' hk' (inv.set hr' hkn) hB' hS h)
  | o :: l, false :: r, k, listed, a, w, hj, hl, hk, inv, hB, hS, h => by
    have ho : ops[k]? = some o := by simpa using (hj 0 (by simp)).symm
    have hj' : ∀ j, j < l.length → l[j]? = ops[k + 1 + j]? := fun j hlt => by have := hj (j + 1) (by simp; omega); simpa [Nat.add_assoc, Nat.add_comm 1 j] using this
    have hl' : l.length = r.length := by simpa using hl
    have hk' : k + 1 + l.length = n := by simp only [List.length_cons] at hk; omega
    simp only [mixB, Bool.and_eq_true, decide_eq_true_eq] at hB
    refine ⟨by rw [hB.1]; simp, fun i hi => ?_⟩
    have : i = k := by rw [hB.1] at hi; simpa using hi
    subst this
    refine ⟨by omega, ?_⟩
    have h' : wpOp P ops Q i (fun a' w' => S w' ∧ wpMix P ops Q S Fin l r a' w') a w := by
      simp only [wpOp, ho]
      simp only [wpMix] at h
      exact h
    exact wpOp_mono (fun a' w' h' => ⟨h'.1, wpMix_T hs hQ hlo l r (i + 1) _ _ _ hj' hl' hk' (inv.set hi (by omega)) hB.2 h'.1 h'.2⟩) h'

theorem headInv_start (n : Nat) : HeadInv md ops n (Array.replicate ops.size false) :=
  ⟨by simp, fun j oj _ hl => (by rw [getD_replicate_false] at hl; cases hl), fun t _ ht => getD_in (by simpa using ht) (getD_replicate_false _ _)⟩

/-- The region's law. 'w.drew' is the world behind the draw. n: how many stand in the head; the marks are the head's; what follows is the tail ('wpList'). -/
theorem wp_region_mix {id : Nat} {a : Act} {w : World} {l : List Oper} (n : Nat) (S : World → Prop) (fl : List Bool) (hm : P.follows .mixedOrders = true)
    (hB : (Region.noSelect l.toArray && decide (n < l.length) && decide (fl.length = n) && Region.sinkB .any l.toArray n && Region.chainB .any l.toArray n &&
      mixB .any l.toArray (l.length - n) 0 fl (Array.replicate l.toArray.size false)) = true) (hS : S w.drew)
    (hQ : ∀ c a d v w, Q (.panic c) (Act.put a d v) w → Q (.panic c) a w)
    (h : wpMix P l.toArray Q S (wpList P l.toArray Q (l.drop n)) (l.take n) fl a w.drew) : (Code.region id l.toArray true).wp P Q a w := by
  simp only [Bool.and_eq_true, decide_eq_true_eq] at hB
  obtain ⟨⟨⟨⟨⟨hs, hl⟩, hfl⟩, hsk⟩, hch⟩, hB⟩ := hB
  have hn : n < l.toArray.size := by simpa using hl
  have hlo : ∀ i, i < n → ∀ listed, HeadInv .any l.toArray n listed → listed.getD i true = false → ∀ j ∈ Region.ready .any l.toArray listed, j < n := by
    intro i hi listed inv hun j hj
    rcases Nat.lt_or_ge j n with h | h
    · exact h
    · exact absurd hj (tail_waits hsk hch hn inv _ i rfl hi hun j h)
  have htl : (l.take n).length = n := by simp; omega
  have H := wpMix_T (md := .any) (g := l.length - n) hs hQ hlo (l.take n) fl 0 _ a w.drew (fun j hj => by
    have hj' : j < n := by rw [htl] at hj; exact hj
    simp [hj']) (by omega) (by omega) (headInv_start _) hB hS h
  refine wp_region_any hm ?_
  have hdl : (l.drop n).length = l.length - n := by simp
  have := wpAny_of_T (Q := Q) (S := S) (g := l.length - n) (fun listed a' w' hL => by
    have := wpAny_of_seq (md := .any) (Q' := Q) (l.drop n) n listed a' w' (fun j => by simp [List.getElem?_drop]) (by rw [hdl]; exact hL.1) hL.2
    rwa [hdl] at this) _ _ _ _ H
  rw [htl, show n + (l.length - n) = l.toArray.size by simp; omega] at this
  exact this

/-- .. where S holds to the end: no tail. -/
theorem wp_region_mix0 {id : Nat} {a : Act} {w : World} {l : List Oper} (S : World → Prop) (fl : List Bool) (hm : P.follows .mixedOrders = true)
    (hB : (Region.noSelect l.toArray && decide (l.length = fl.length) && mixB .any l.toArray 0 0 fl (Array.replicate l.toArray.size false)) = true) (hS : S w.drew)
    (hQ : ∀ c a d v w, Q (.panic c) (Act.put a d v) w → Q (.panic c) a w)
    (h : wpMix P l.toArray Q S (Q .normal) l fl a w.drew) : (Code.region id l.toArray true).wp P Q a w := by
  simp only [Bool.and_eq_true, decide_eq_true_eq] at hB
  obtain ⟨⟨hs, hl⟩, hB⟩ := hB
  have hlo : ∀ i, i < l.length → ∀ listed, HeadInv .any l.toArray l.length listed → listed.getD i true = false → ∀ j ∈ Region.ready .any l.toArray listed, j < l.length := by
    intro i hi listed inv hun j hj
    obtain ⟨_, oj, hoj, _⟩ := mem_ready.1 hj
    simpa using (Array.getElem?_eq_some_iff.1 hoj).1
  have H := wpMix_T (md := .any) (g := 0) hs hQ hlo l fl 0 _ a w.drew (fun j hj => by simp) hl (by simp) (headInv_start _) hB hS h
  refine wp_region_any hm ?_
  have := wpAny_of_T (Q := Q) (S := S) (g := 0) (fun listed a' w' hL => ⟨by simpa [Region.seqB] using hL.1, hL.2⟩) _ _ _ _ H
  simpa using this

/-- The same, the operations of the head taken in an order that is told: pairs of a place and a mark. -/
def mixP (md : Region.Mode) (ops : Array Oper) (g n : Nat) : List (Nat × Bool) → Array Bool → Bool
  | [], listed => Region.seqB md ops g n listed
  | (k, true) :: r, listed => (Region.ready md ops listed).contains k && Region.free md ops listed k && decide (k < n) && mixP md ops g n r (listed.setIfInBounds k true)
  | (k, false) :: r, listed => decide (Region.ready md ops listed = [k]) && decide (k < n) && mixP md ops g n r (listed.setIfInBounds k true)

theorem wpMixP_T (hs : Region.noSelect ops = true) (hQ : ∀ c a d v w, Q (.panic c) (Act.put a d v) w → Q (.panic c) a w) {n g : Nat}
    (hlo : ∀ i, i < n → ∀ listed, HeadInv md ops n listed → listed.getD i true = false → ∀ j ∈ Region.ready md ops listed, j < n) :
    ∀ (r : List (Nat × Bool)) (l : List Oper) (listed : Array Bool) (a : Act) (w : World), l.map some = r.map (fun p => ops[p.1]?) → HeadInv md ops n listed →
      mixP md ops g n r listed = true → S w → wpMix P ops Q S Fin l (r.map (·.2)) a w →
      wpAnyT P md ops Q S n (fun listed' a' w' => Region.seqB md ops g n listed' = true ∧ Fin a' w') r.length listed a w
  | [], [], listed, a, w, _, _, hB, _, h => ⟨hB, h⟩
  | [], _ :: _, _, _, _, hl, _, _, _, _ => by simp at hl
  | _ :: _, [], _, _, _, hl, _, _, _, _ => by simp at hl
  | (k, true) :: r, o :: l, listed, a, w, hj, inv, hB, hS, h => by
    simp only [List.map_cons, List.cons.injEq] at hj
    obtain ⟨ho, hj'⟩ := hj
    have ho := ho.symm
    simp only [mixP, Bool.and_eq_true, decide_eq_true_eq] at hB
    obtain ⟨⟨⟨hr, hf⟩, hkn⟩, hB'⟩ := hB
    have hr' : k ∈ Region.ready md ops listed := by simpa using hr
    simp only [List.map_cons, wpMix] at h
    by_cases hw : Region.wanted o (yielded ops a.tmps) = true
    · simp only [hw, if_true] at h
      obtain ⟨v, h1, h2⟩ := h
      exact wpAnyT_first ho (Region.noSelect_spec hs) (fun c a w h => hQ c a o.dst v w h) (hlo k hkn) hkn (fun listed' a' w' hL => seqB_ready hL.1) r.length listed a w inv (Region.free_spec ho hf) hr' (.inl ⟨hw, h1⟩) hS
        (wpMixP_T hs hQ hlo r l _ _ _ hj' (inv.set hr' hkn) hB' hS h2)
    · simp only [hw] at h
      exact wpAnyT_first ho (Region.noSelect_spec hs) (fun c a w h => hQ c a o.dst undef w h) (hlo k hkn) hkn (fun listed' a' w' hL => seqB_ready hL.1) r.length listed a w inv (Region.free_spec ho hf) hr' (.inr ⟨by simpa using hw, rfl⟩) hS
        (wpMixP_T hs hQ hlo r l _ _ _ hj' (inv.set hr' hkn) hB' hS h)
  | (k, false) :: r, o :: l, listed, a, w, hj, inv, hB, hS, h => by
    simp only [List.map_cons, List.cons.injEq] at hj
    obtain ⟨ho, hj'⟩ := hj
    have ho := ho.symm
    simp only [mixP, Bool.and_eq_true, decide_eq_true_eq] at hB
    obtain ⟨⟨hr, hkn⟩, hB'⟩ := hB
    refine ⟨by rw [hr]; simp, fun i hi => ?_⟩
    have : i = k := by rw [hr] at hi; simpa using hi
    subst this
    refine ⟨hkn, ?_⟩
    have h' : wpOp P ops Q i (fun a' w' => S w' ∧ wpMix P ops Q S Fin l (r.map (·.2)) a' w') a w := by
      simp only [wpOp, ho]
      simp only [List.map_cons, wpMix] at h
      exact h
    exact wpOp_mono (fun a' w' h' => ⟨h'.1, wpMixP_T hs hQ hlo r l _ _ _ hj' (inv.set hi hkn) hB' h'.1 h'.2⟩) h'

/-- The operations at these places. -/
def pickOps (l : List Oper) : List (Nat × Bool) → List Oper
  | [] => []
  | p :: r => match l[p.1]? with
    | some o => o :: pickOps l r
    | none => []
theorem pickOps_all (l : List Oper) : ∀ r : List (Nat × Bool), (r.all fun p => decide (p.1 < l.length)) = true → (pickOps l r).map some = r.map (fun p => l.toArray[p.1]?)
  | [], _ => rfl
  | p :: r, h => by
    simp only [List.all_cons, Bool.and_eq_true, decide_eq_true_eq] at h
    simp only [pickOps, List.getElem?_eq_getElem h.1, List.map_cons, pickOps_all l r h.2]
    simp [h.1]

/-- The region's law, the head's order told. -/
theorem wp_region_perm {id : Nat} {a : Act} {w : World} {l : List Oper} (n : Nat) (S : World → Prop) (r : List (Nat × Bool)) (hm : P.follows .mixedOrders = true)
    (hB : (Region.noSelect l.toArray && decide (n < l.length) && decide (r.length = n) && Region.sinkB .any l.toArray n && Region.chainB .any l.toArray n && (r.all fun p => decide (p.1 < l.length)) &&
      mixP .any l.toArray (l.length - n) n r (Array.replicate l.toArray.size false)) = true) (hS : S w.drew)
    (hQ : ∀ c a d v w, Q (.panic c) (Act.put a d v) w → Q (.panic c) a w)
    (h : wpMix P l.toArray Q S (wpList P l.toArray Q (l.drop n)) (pickOps l r) (r.map (·.2)) a w.drew) : (Code.region id l.toArray true).wp P Q a w := by
  simp only [Bool.and_eq_true, decide_eq_true_eq] at hB
  obtain ⟨⟨⟨⟨⟨⟨hs, hl⟩, hfl⟩, hsk⟩, hch⟩, hal⟩, hB⟩ := hB
  have hn : n < l.toArray.size := by simpa using hl
  have hlo : ∀ i, i < n → ∀ listed, HeadInv .any l.toArray n listed → listed.getD i true = false → ∀ j ∈ Region.ready .any l.toArray listed, j < n := by
    intro i hi listed inv hun j hj
    rcases Nat.lt_or_ge j n with h | h
    · exact h
    · exact absurd hj (tail_waits hsk hch hn inv _ i rfl hi hun j h)
  have H := wpMixP_T (md := .any) (g := l.length - n) hs hQ hlo r (pickOps l r) _ a w.drew (pickOps_all l r hal) (headInv_start _) hB hS h
  refine wp_region_any hm ?_
  have hdl : (l.drop n).length = l.length - n := by simp
  have := wpAny_of_T (Q := Q) (S := S) (g := l.length - n) (fun listed a' w' hL => by
    have := wpAny_of_seq (md := .any) (Q' := Q) (l.drop n) n listed a' w' (fun j => by simp [List.getElem?_drop]) (by rw [hdl]; exact hL.1) hL.2
    rwa [hdl] at this) _ _ _ _ H
  rw [hfl, show n + (l.length - n) = l.toArray.size by simp; omega] at this
  exact this

theorem wpMix_nil {r : List Bool} {a : Act} {w : World} (h : Fin a w) : wpMix P ops Q S Fin [] r a w := by
  cases r <;> exact h
theorem wpMix_pure {o : Oper} {l : List Oper} {r : List Bool} {a : Act} {w : World}
    (h : ∀ K : Act → Prop, (∀ a, wpMix P ops Q S Fin l r a w → K a) → if Region.wanted o (yielded ops a.tmps) then Oper.pureIf P S o a K else K (a.put o.dst undef)) : wpMix P ops Q S Fin (o :: l) (true :: r) a w :=
  h _ (fun _ h => h)
theorem wpMix_do {o : Oper} {l : List Oper} {r : List Bool} {a : Act} {w : World}
    (h : ∀ K : Act → World → Prop, (∀ a w, S w → wpMix P ops Q S Fin l r a w → K a w) → if Region.wanted o (yielded ops a.tmps) then o.wp P a w K Q else K (a.put o.dst undef) w) : wpMix P ops Q S Fin (o :: l) (false :: r) a w := by
  have := h (fun a' w' => S w' ∧ wpMix P ops Q S Fin l r a' w') (fun _ _ h1 h2 => ⟨h1, h2⟩)
  simp only [wpMix]
  split
  · rename_i hw; rw [if_pos hw] at this; exact .inl this
  · rename_i hw; rw [if_neg hw] at this; exact this
theorem wpMix_read {o : Oper} {l : List Oper} {r : List Bool} {a : Act} {w : World} (hg : o.guard = none)
    (h : ∀ K : Act → Prop, (∀ a, wpMix P ops Q S Fin l r a w → K a) → Oper.pureIf P S o a K) : wpMix P ops Q S Fin (o :: l) (true :: r) a w :=
  wpMix_pure fun K hK => by rw [if_pos (by simp [Region.wanted, hg])]; exact h K hK
theorem wpMix_act {o : Oper} {l : List Oper} {r : List Bool} {a : Act} {w : World} (hg : o.guard = none)
    (h : ∀ K : Act → World → Prop, (∀ a w, S w → wpMix P ops Q S Fin l r a w → K a w) → o.wp P a w K Q) : wpMix P ops Q S Fin (o :: l) (false :: r) a w :=
  wpMix_do fun K hK => by rw [if_pos (by simp [Region.wanted, hg])]; exact h K hK
end

end Go.Proofs.YtajojhfialbfkaaGreatDoor
/- Strings as lists of bytes; numbers as bytes. Plain: no program. -/
namespace Go.Proofs.YtajojhfialbfkaaGreatDoor

/-- A string of these bytes. -/
def bstr (l : List UInt8) : ByteArray := ⟨l.toArray⟩

theorem size_bstr (l : List UInt8) : (bstr l).size = l.length := by simp [bstr, ByteArray.size]
theorem data_bstr (l : List UInt8) : (bstr l).data.toList = l := by simp [bstr]
theorem toList_bstr (l : List UInt8) : (bstr l).toList = l := (ByteArray.toList_eq _).trans (data_bstr l)
theorem bstr_data (s : ByteArray) : bstr s.data.toList = s := by simp [bstr]
theorem bstr_inj {l m : List UInt8} (h : bstr l = bstr m) : l = m := by
  have := congrArg (fun s : ByteArray => s.data.toList) h
  simpa [data_bstr] using this
theorem extract_bstr (l : List UInt8) (a b : Nat) : (bstr l).extract a b = bstr ((l.drop a).take (b - a)) := by
  apply ByteArray.ext
  rw [ByteArray.data_extract]
  simp only [bstr]
  apply Array.ext'
  simp
theorem take_bstr (l : List UInt8) (n : Nat) : (bstr l).extract 0 n = bstr (l.take n) := by simp [extract_bstr]
theorem drop_bstr (l : List UInt8) (n : Nat) : (bstr l).extract n l.length = bstr (l.drop n) := by
  rw [extract_bstr, List.take_of_length_le]
  simp
theorem append_bstr (l m : List UInt8) : bstr l ++ bstr m = bstr (l ++ m) := by
  apply ByteArray.ext
  simp [bstr]
theorem bstr_nil : bstr [] = ByteArray.empty := rfl

/-- A number out of bytes, the highest first. -/
def beNat (l : List UInt8) : Nat := l.foldl (fun n b => 256 * n + b.toNat) 0

theorem beNat_snoc (l : List UInt8) (b : UInt8) : beNat (l ++ [b]) = 256 * beNat l + b.toNat := by simp [beNat]
theorem foldl_be (l : List UInt8) (n : Nat) : l.foldl (fun n b => 256 * n + b.toNat) n = n * 256 ^ l.length + beNat l := by
  induction l generalizing n with
  | nil => simp [beNat]
  | cons b l ih =>
    simp only [List.foldl_cons, List.length_cons, beNat, Nat.mul_zero, Nat.zero_add]
    rw [ih, ih b.toNat, Nat.pow_succ]
    rw [Nat.add_mul, ← Nat.add_assoc]
    congr 1
    rw [Nat.mul_comm 256 n, Nat.mul_assoc, Nat.mul_comm 256]
theorem beNat_cons (b : UInt8) (l : List UInt8) : beNat (b :: l) = b.toNat * 256 ^ l.length + beNat l := by
  have := foldl_be l b.toNat
  simpa [beNat] using this
theorem beNat_lt (l : List UInt8) : beNat l < 256 ^ l.length := by
  induction l with
  | nil => simp [beNat]
  | cons b l ih =>
    rw [beNat_cons, List.length_cons, Nat.pow_succ]
    have hb : b.toNat < 256 := b.toNat_lt
    have : b.toNat * 256 ^ l.length + 256 ^ l.length ≤ 256 ^ l.length * 256 := by
      have h1 : (b.toNat + 1) * 256 ^ l.length ≤ 256 * 256 ^ l.length := Nat.mul_le_mul_right _ (by omega)
      rw [Nat.add_mul, Nat.one_mul] at h1
      rw [Nat.mul_comm (256 ^ l.length) 256]
      exact h1
    omega

/-- A number's bytes, so many, the highest first. -/
def numB (n : Nat) : Nat → List UInt8
  | 0 => []
  | k + 1 => UInt8.ofNat (n / 256 ^ k) :: numB n k
theorem numB_length (n k : Nat) : (numB n k).length = k := by
  induction k with
  | zero => rfl
  | succ k ih => simp [numB, ih]
theorem beNat_numB (n k : Nat) : beNat (numB n k) = n % 256 ^ k := by
  induction k with
  | zero => simp [numB, beNat, Nat.mod_one]
  | succ k ih =>
    rw [numB, beNat_cons, ih, numB_length]
    have : (UInt8.ofNat (n / 256 ^ k)).toNat = n / 256 ^ k % 256 := by simp
    rw [this, Nat.pow_succ, Nat.mod_mul, Nat.add_comm, Nat.mul_comm]
theorem beNat_numB_lt (n k : Nat) (h : n < 256 ^ k) : beNat (numB n k) = n := by rw [beNat_numB, Nat.mod_eq_of_lt h]

end Go.Proofs.YtajojhfialbfkaaGreatDoor
/- Layer 4: the contracts of a disk's calls, over what its blocks hold ('DiskAt'). -/
namespace Go.Proofs.YtajojhfialbfkaaGreatDoor
open Go.RowKit

/-- A call ended by pack.Fail. -/
abbrev failed (e : Int) : Ending := .panicked [{ v := .iface 196 (.agg #[.int .i64 e]), recovered := false }]
abbrev unit0 : Ending := .returned (.tuple #[])

set_option maxHeartbeats 400000 in
theorem fail_any (e : Int) (w : World) :
    Calls Tryz.prog 63 #[.int .i64 e] w fun en w' => en = failed e ∧ w = w' := by
  go_enter Tryz.func63, Tryz.ntmps63
  go_wp2
  exact ⟨rfl, rfl, rfl⟩

/-- What a disk's sectors hold, cell by cell. -/
def secs (l : List (ByteArray × ByteArray)) : List Value := l.flatMap fun s => [.string s.1, .string s.2]

theorem secs_nil : secs [] = [] := rfl
theorem secs_cons (s : ByteArray × ByteArray) (l : List (ByteArray × ByteArray)) : secs (s :: l) = .string s.1 :: .string s.2 :: secs l := rfl
theorem secs_append (l m : List (ByteArray × ByteArray)) : secs (l ++ m) = secs l ++ secs m := by simp [secs]
theorem secs_length (l : List (ByteArray × ByteArray)) : (secs l).length = l.length * 2 := by
  induction l with
  | nil => rfl
  | cons s l ih => simp only [secs_cons, List.length_cons, ih]; omega
theorem secs_sure (l : List (ByteArray × ByteArray)) : ∀ (i : Nat) (h : i < l.length), (secs l)[i * 2]? = some (.string l[i].1) := by
  induction l with
  | nil => intro i h; simp at h
  | cons s l ih =>
    intro i h
    cases i with
    | zero => rfl
    | succ i =>
      have := ih i (by simpa using h)
      rw [show (i + 1) * 2 = i * 2 + 1 + 1 from by omega]
      simpa [secs_cons] using this
theorem secs_now (l : List (ByteArray × ByteArray)) : ∀ (i : Nat) (h : i < l.length), (secs l)[i * 2 + 1]? = some (.string l[i].2) := by
  induction l with
  | nil => intro i h; simp at h
  | cons s l ih =>
    intro i h
    cases i with
    | zero => rfl
    | succ i =>
      have := ih i (by simpa using h)
      rw [show (i + 1) * 2 + 1 = i * 2 + 1 + 1 + 1 from by omega]
      simpa [secs_cons] using this
theorem secs_set_now (l : List (ByteArray × ByteArray)) (s : ByteArray) : ∀ (i : Nat) (h : i < l.length), (secs l).set (i * 2 + 1) (.string s) = secs (l.set i (l[i].1, s)) := by
  induction l with
  | nil => intro i h; simp at h
  | cons x l ih =>
    intro i h
    cases i with
    | zero => rfl
    | succ i =>
      have := ih i (by simpa using h)
      rw [show (i + 1) * 2 + 1 = i * 2 + 1 + 1 + 1 from by omega]
      simpa [secs_cons] using this
theorem secs_set_sure (l : List (ByteArray × ByteArray)) (s : ByteArray) : ∀ (i : Nat) (h : i < l.length), (secs l).set (i * 2) (.string s) = secs (l.set i (s, l[i].2)) := by
  induction l with
  | nil => intro i h; simp at h
  | cons x l ih =>
    intro i h
    cases i with
    | zero => rfl
    | succ i =>
      have := ih i (by simpa using h)
      rw [show (i + 1) * 2 = i * 2 + 1 + 1 from by omega]
      simpa [secs_cons] using this

/-- A disk: its sectors (what is sure, what is now), is a cut armed, how many calls work yet, is it dead. -/
structure DS where
  l : List (ByteArray × ByteArray)
  armed : Bool
  left : Int
  dead : Bool

structure DiskAt (w : World) (d : Nat) (sv : Value) (D : DS) : Prop where
  hd : w.heap[d]? = some (.cells #[sv, .bool D.armed, .int .i64 D.left, .bool D.dead] 110 (0, 0))
  row : w.ownsRow 0 112 2 sv D.l.length (secs D.l)

/-- Its blocks. -/
def DiskF (d : Nat) (sv : Value) : Nat → Prop := fun k => k = d ∨ sv.ownBlock = some k

section
variable {w w' : World} {d : Nat} {sv : Value} {D : DS}

theorem DiskAt.form (h : DiskAt w d sv D) : ∃ ao cap, sv = .slice ao D.l.length cap ∧ D.l.length ≤ cap ∧ cap ≤ maxLen := ownsRow_form h.row

theorem DiskAt.fr {F : Nat → Prop} (h : DiskAt w d sv D) (hf : Fr F w w') (hn : ∀ k, DiskF d sv k → ¬ F k) : DiskAt w' d sv D :=
  ⟨hf.blk h.hd (hn d (.inl rfl)), ownsRow_fr h.row hf (fun k hk => hn k (.inr hk))⟩

theorem DiskAt.lt (h : DiskAt w d sv D) : ∀ k, DiskF d sv k → k < w.heap.size := by
  rintro k (rfl | hk)
  · exact lt_of_blk h.hd
  · exact (h.row.lt k hk).2
end

section
variable {w : World} {d : Nat} {sv : Value} {D : DS}

theorem alive_ok (h : DiskAt w d sv D) (hz : D.dead = false) :
    Calls Tryz.prog 103 #[.pointer (some ⟨d, 0, none⟩)] w fun e w' => e = unit0 ∧ w = w' := by
  have cd := cell_blk h.hd
  go_enter Tryz.func103, Tryz.ntmps103
  go_wp2
  go_end0
  exact ⟨rfl, rfl⟩

theorem alive_dead (h : DiskAt w d sv D) (hz : D.dead = true) :
    Calls Tryz.prog 103 #[.pointer (some ⟨d, 0, none⟩)] w fun e w' => e = failed 12 ∧ w = w' := by
  have cd := cell_blk h.hd
  go_enter Tryz.func103, Tryz.ntmps103
  go_wp2_with (go_at_call 63; refine (fail_any _ _).mono ?_; rintro e w' ⟨rfl, rfl⟩)
  exact ⟨rfl, rfl, rfl⟩

theorem check_ok (h : DiskAt w d sv D) (k : Nat) (hk : k < D.l.length) :
    Calls Tryz.prog 104 #[.pointer (some ⟨d, 0, none⟩), .int .i64 (k : Int)] w fun e w' => e = unit0 ∧ w = w' := by
  have cd := cell_blk h.hd
  obtain ⟨ao, cap, rfl, h1, h2⟩ := h.form
  clear h
  go_enter Tryz.func104, Tryz.ntmps104
  go_wp2
  go_end0
  exact ⟨rfl, rfl⟩

theorem check_bad (h : DiskAt w d sv D) (i : Int) (hi : i < 0 ∨ (D.l.length : Int) ≤ i) :
    Calls Tryz.prog 104 #[.pointer (some ⟨d, 0, none⟩), .int .i64 i] w fun e w' => e = failed 6 ∧ w = w' := by
  have cd := cell_blk h.hd
  obtain ⟨ao, cap, rfl, h1, h2⟩ := h.form
  clear h
  by_cases h0 : i < 0
  · have hd : decide (i < 0) = true := by simpa using h0
    go_enter Tryz.func104, Tryz.ntmps104
    go_wp2_with (go_at_call 63; refine (fail_any _ _).mono ?_; rintro e w' ⟨rfl, rfl⟩)
    exact ⟨rfl, rfl, rfl⟩
  · have hd : decide (i < 0) = false := by simpa using h0
    have h3 : (D.l.length : Int) ≤ i := by omega
    clear hi
    go_enter Tryz.func104, Tryz.ntmps104
    go_wp2_with (go_at_call 63; refine (fail_any _ _).mono ?_; rintro e w' ⟨rfl, rfl⟩)
    exact ⟨rfl, rfl, rfl⟩

theorem disk_read (h : DiskAt w d sv D) (hz : D.dead = false) (k : Nat) (hk : k < D.l.length) :
    Calls Tryz.prog 56 #[.pointer (some ⟨d, 0, none⟩), .int .i64 (k : Int)] w fun e w' => e = .returned (.string D.l[k].2) ∧ w = w' := by
  have cd := cell_blk h.hd
  have hs := secs_now D.l k hk
  obtain ⟨g, cap, cur, rfl, h1, h2, h3, h4, h5⟩ := ownsRow_at h.row (by omega)
  have cg := h.row.cellAt (k * 2 + 1) (by omega)
  rw [hs] at cg
  clear hs
  unfold maxLen at h2
  go_enter Tryz.func56, Tryz.ntmps56
  go_wp2_with (first
    | (go_at_call 103; refine (alive_ok h hz).mono ?_; rintro e w' ⟨rfl, rfl⟩)
    | (go_at_call 104; refine (check_ok h k hk).mono ?_; rintro e w' ⟨rfl, rfl⟩))
  go_ret
  exact ⟨rfl, rfl⟩
end
end Go.Proofs.YtajojhfialbfkaaGreatDoor
/- Layer 3: the contracts of pack's calls. -/
namespace Go.Proofs.YtajojhfialbfkaaGreatDoor
open Go.RowKit

theorem infoU8 : (Tryz.prog.info? 5).map (fun i => (i.zero, i.size, i.bytes)) = some (some (.int .u8 0), 1, 1) := by kernel_rfl

/-- Bytes as cells. -/
def bcells (l : List UInt8) : List Value := l.map fun b => .int .u8 b.toNat

theorem bcells_append (l m : List UInt8) : bcells (l ++ m) = bcells l ++ bcells m := by simp [bcells]
theorem bcells_length (l : List UInt8) : (bcells l).length = l.length := by simp [bcells]

/-- An 'Out' of the call's own: block o (from B on) leads to a row that holds these bytes. -/
structure OutAt (w : World) (B o : Nat) (l : List UInt8) : Prop where
  ge : B ≤ o
  row : ∃ v, w.heap[o]? = some (.cells #[v] 182 (0, 0)) ∧ w.ownsRow B 5 1 v l.length (bcells l)

/-- so many first bytes of a number. -/
def numTo (n size : Nat) (i : Nat) : List UInt8 := (numB n size).take i

theorem numB_get (n : Nat) : ∀ (size i : Nat), i < size → (numB n size)[i]? = some (UInt8.ofNat (n / 256 ^ (size - 1 - i))) := by
  intro size
  induction size with
  | zero => intro i h; omega
  | succ k ih =>
    intro i h
    cases i with
    | zero => simp [numB]
    | succ i =>
      have := ih i (by omega)
      simp only [numB, List.getElem?_cons_succ, this]
      congr 4
      omega
theorem numTo_length (n size i : Nat) (h : i ≤ size) : (numTo n size i).length = i := by
  simp [numTo, numB_length]; omega
theorem numTo_succ (n size k : Nat) (h1 : 1 ≤ k) (h : k ≤ size) : numTo n size (size - (k - 1)) = numTo n size (size - k) ++ [UInt8.ofNat (n / 256 ^ (k - 1))] := by
  have e : size - (k - 1) = (size - k) + 1 := by omega
  have hg := numB_get n size (size - k) (by omega)
  rw [show size - 1 - (size - k) = k - 1 from by omega] at hg
  unfold numTo
  rw [e, List.take_add_one, hg]
  rfl
theorem numTo_all (n size : Nat) : numTo n size (size - 0) = numB n size := by
  unfold numTo
  rw [Nat.sub_zero, List.take_of_length_le (by rw [numB_length]; exact Nat.le_refl _)]
theorem numTo_none (n size : Nat) : numTo n size (size - size) = [] := by simp [numTo]
theorem byte_of_shift (n k : Nat) (h1 : 1 ≤ k) : IntKind.u8.wrap ((n : Int) / 2 ^ (8 * ((k : Int) - 1)).toNat) = ((UInt8.ofNat (n / 256 ^ (k - 1))).toNat : Int) := by
  have e : (8 * ((k : Int) - 1)).toNat = 8 * (k - 1) := by omega
  rw [e]
  have e2 : (2 : Nat) ^ (8 * (k - 1)) = 256 ^ (k - 1) := by rw [Nat.pow_mul]
  have e3 : (2 : Int) ^ (8 * (k - 1)) = ((256 ^ (k - 1) : Nat) : Int) := by rw [← e2]; simp
  rw [e3]
  simp [IntKind.wrap, IntKind.signed, IntKind.bits]

set_option maxHeartbeats 1000000 in
theorem out_num (B o : Nat) (l : List UInt8) (n size : Nat) (hs1 : 1 ≤ size) (hs : size ≤ 8) (hl : l.length ≤ 1000000) (w : World) (h : OutAt w B o l) (hB : B ≤ w.heap.size) :
    Calls Tryz.prog 199 #[.pointer (some ⟨o, 0, none⟩), .int .u64 (n : Int), .int .i64 (size : Int)] w fun e w' =>
      e = .returned (.pointer (some ⟨o, 0, none⟩)) ∧ OutAt w' B o (l ++ numB n size) ∧ Below B w w' := by
  obtain ⟨i0, hi, hz0, hz1, hz2⟩ := info_parts infoU8
  go_enter Tryz.func199, Tryz.ntmps199
  go_wp2
  go_loopw [7] (fun i wr => ∃ k : Nat, k ≤ size ∧ i = .int .i64 ((k : Int) - 1) ∧ OutAt wr B o (l ++ numTo n size (size - k)) ∧ Below B w wr) (fun i _ => (intOf i + 1).toNat)
  case atStart =>
    exact ⟨size, Nat.le_refl _, rfl, by rw [numTo_none, List.append_nil]; exact h, Below.refl _ _⟩
  case round =>
    obtain ⟨k, hk, rfl, ⟨hge, v, hb, hrow⟩, hbel⟩ := hrel
    have hc := cell_blk hb
    have hf := frozen_blk hb
    by_cases hk0 : k = 0
    · subst hk0
      have H := Lib.hid hl
      clear hl
      go_wp2
      go_ret
      exact ⟨rfl, by rw [← numTo_all]; exact ⟨hge, v, hb, hrow⟩, hbel⟩
    · have h1 : (0 : Int) ≤ (k : Int) - 1 := by omega
      have h1' : (1 : Int) ≤ (k : Int) := by omega
      have HL := Lib.hid hl
      have hm : IntKind.i64.wrap (8 * ((k : Int) - 1)) = 8 * ((k : Int) - 1) := IntWalk.i64_in _ (by omega)
      have hm0 : (0 : Int) ≤ 8 * ((k : Int) - 1) := by omega
      have hm1 : (8 : Int) * ((k : Int) - 1) < 64 := by omega
      clear hl hk0
      go_wp2
      refine wp_region_mix 14 (fun w' => ∀ i, w'.cell? ⟨o, i, none⟩ = #[v][i]?) [true, true, true, true, true, true, true, true, true, true, false, false, true, true] (by kernel_rfl) (by kernel_rfl) ?_ (by intro c a d v w h; cases d <;> exact h) ?_
      · intro i; exact hc i
      simp only [List.take_succ_cons, List.take_zero, List.drop_succ_cons, List.drop_zero]
      repeat ((with_reducible refine wpMix_read ?_ (fun K hK => ?_)); (focus rfl); apply Exists.intro; refine ⟨fun w' hS => ?_, ?_⟩; (focus (try dsimp only at hS; go_simp; try rfl)); go_simp; refine hK _ ?_; clear hK K)
      refine wpMix_act rfl (fun K hK => ?_)
      go_simp
      have hb1 := blk_alloc (o' := .cells #[.int .u8 (IntKind.u8.wrap ((n : Int) / 2 ^ (8 * ((k : Int) - 1)).toNat))] 5) hb
      refine hK _ _ (cell_blk hb1) ?_; clear hK K
      refine wpMix_act rfl (fun K hK => ?_)
      have hlen : (l ++ numTo n size (size - k)).length ≤ 1000008 := by
        have := HL.out
        rw [List.length_append, numTo_length _ _ _ (by omega)]; omega
      refine wp_append_lies _ _ _ _ rfl B 5 i0 _ 1 1 Tryz.underlying102 hi hz0 hz1 hz2 rfl (by decide) v _ _ (by rfl) (hrow.alloc _) ⟨wr.heap.size, 0, none⟩ 1 1 [_] (by rfl) (by rfl) (cell_one_new _ _ _) (by simp [Value.oneCell']) (by decide) (by unfold maxLen; omega) (by omega) (by have := hbel.size; simp; omega) _ rfl (fun g cap w1 hown1 hgrow hat hlt => ?_)
      have hne : v.ownBlock ≠ some o := ownsRow_ne hrow hb (by decide)
      have hb2 := blk_grown (blk_drew hb1) hgrow hne
      have hc2 := cell_blk hb2
      have hf2 := frozen_blk hb2
      refine hK _ _ hc2 ?_; clear hK K hc hf
      repeat ((with_reducible refine wpMix_read ?_ (fun K hK => ?_)); (focus rfl); apply Exists.intro; refine ⟨fun w' hS => ?_, ?_⟩; (focus (try dsimp only at hS; go_simp; try rfl)); go_simp; refine hK _ ?_; clear hK K)
      refine wpMix_nil ?_
      go_wp2
      go_roundw
      case rel =>
        refine ⟨k - 1, by omega, by go_num, ?_, ?_⟩
        · refine ⟨hge, .slice (some ⟨g, 0, none⟩) (l.length + (numTo n size (size - k)).length + 1) cap, blk_set hb2, ?_⟩
          have e1 : l ++ numTo n size (size - (k - 1)) = (l ++ numTo n size (size - k)) ++ [UInt8.ofNat (n / 256 ^ (k - 1))] := by rw [numTo_succ n size k (by omega) hk, List.append_assoc]
          have e2 : l.length + (numTo n size (size - k)).length + 1 = (l ++ numTo n size (size - k)).length + 1 := by simp
          have e3 : ((l ++ numTo n size (size - k)) ++ [UInt8.ofNat (n / 256 ^ (k - 1))]).length = (l ++ numTo n size (size - k)).length + 1 := by simp [Nat.add_assoc]
          rw [e1, e2, e3, bcells_append]
          rw [byte_of_shift n k (by omega)] at hown1
          exact ownsRow_far hown1 (ownsRow_ne hown1 hb2 (by decide)) _
        · exact ((hbel.alloc (by have := hbel.size; omega) _).drew.grown hgrow (by have := hbel.size; simp; omega) (fun x hx => by have := (hrow.lt x hx).1; omega)).setCell hge _
      case measure => simp [intOf]; omega

theorem strCells_bcells (s : ByteArray) : Lib.strCells s = bcells s.data.toList := rfl
theorem size_data (s : ByteArray) : s.data.toList.length = s.size := rfl

theorem out_text (B o : Nat) (l : List UInt8) (s : ByteArray) (hl : l.length + s.size ≤ 140737488355328) (w : World) (h : OutAt w B o l) (hB : B ≤ w.heap.size) :
    Calls Tryz.prog 105 #[.pointer (some ⟨o, 0, none⟩), .string s] w fun e w' =>
      e = .returned (.pointer (some ⟨o, 0, none⟩)) ∧ OutAt w' B o (l ++ s.data.toList) ∧ Below B w w' := by
  obtain ⟨i0, hi, hz0, hz1, hz2⟩ := info_parts infoU8
  obtain ⟨hge, v, hb, hrow⟩ := h
  have hne : v.ownBlock ≠ some o := ownsRow_ne hrow hb (by decide)
  have hc := cell_blk hb
  have HL := Lib.hid hl
  clear hl
  go_enter Tryz.func105, Tryz.ntmps105
  go_wp2_with (at_builtin; refine Lib.wpList_append_own_string _ rfl _ _ 102 9 rfl B 5 i0 Tryz.underlying102 Tryz.underlying9 hi hz0 hz1 hz2 v _ _ (by rfl) hrow s (by rfl) ?c1 ?c2 hB ?_)
  case c1 => have := HL.out; unfold maxLen; omega
  case c2 => exact HL.out
  intro v' w1 hown1 hgrow hiff
  clear hiff
  obtain ⟨ao, cap, rfl, _, _⟩ := ownsRow_form hown1
  have hb2 := blk_grown hb hgrow hne
  have hne2 := ownsRow_ne hown1 hb2 (by decide)
  have hc2 := cell_blk hb2
  have hf2 := frozen_blk hb2
  clear hc
  go_wp2
  go_ret
  refine ⟨rfl, ⟨hge, _, blk_set hb2, ?_⟩, ?_⟩
  · rw [bcells_append, List.length_append, size_data, ← strCells_bcells]
    exact ownsRow_far hown1 hne2 _
  · exact ((Below.refl B w).grown hgrow hB (fun x hx => (hrow.lt x hx).1)).setCell hge _


theorem strOfNums_bytes (l : List UInt8) : strOfNums (l.map fun b => (b.toNat : Int)) = bstr l := by
  apply ByteArray.ext
  simp only [strOfNums, bstr]
  congr 1
  rw [List.map_map]
  exact (List.map_congr_left (fun b _ => by simp)).trans (List.map_id l)

theorem conv_bytes (w : World) (B : Nat) (v : Value) (l : List UInt8) (h : w.ownsRow B 5 1 v l.length (bcells l)) : (convert 102 9 v).run Tryz.prog w = .ok (.string (bstr l)) w := by
  obtain ⟨hl, ⟨rfl, h0⟩ | ⟨g, cap, cur, rfl, _, h3, h1, h2, h4, h5⟩⟩ := h
  · have : l = [] := List.length_eq_zero_iff.1 h0
    subst this
    exact run_convert_bytes_nil w 102 5 Tryz.underlying102 Tryz.underlying5 0 0 9 Tryz.underlying9
  · rw [← strOfNums_bytes]
    refine run_convert_bytes_arg w 102 5 Tryz.underlying102 Tryz.underlying5 g 0 l.length cap (l.map fun b => (b.toNat : Int)) (by simp) (fun i hi => ?_) 9 Tryz.underlying9
    have hc := cell_blk h3 i
    have e : cur[i]? = (bcells l)[i]? := by
      rw [← h5, List.getElem?_take]
      simp
      omega
    rw [Nat.zero_add, hc, e]
    simp [bcells, hi]

theorem out_bytes (B o : Nat) (l : List UInt8) (w : World) (h : OutAt w B o l) :
    Calls Tryz.prog 107 #[.pointer (some ⟨o, 0, none⟩)] w fun e w' => e = .returned (.string (bstr l)) ∧ w = w' := by
  obtain ⟨hge, v, hb, hrow⟩ := h
  have hc := cell_blk hb
  have hcv := conv_bytes w B v l hrow
  obtain ⟨ao, cap, rfl, _, _⟩ := ownsRow_form hrow
  clear hrow
  go_enter Tryz.func107, Tryz.ntmps107
  go_wp2
  go_ret
  exact ⟨rfl, rfl⟩

end Go.Proofs.YtajojhfialbfkaaGreatDoor
/- Layer 3: the contracts of pack's 'In': bytes taken from the front. -/
namespace Go.Proofs.YtajojhfialbfkaaGreatDoor
open Go.RowKit

/-- An 'In': what is left. -/
def InAt (w : World) (i : Nat) (l : List UInt8) : Prop := w.heap[i]? = some (.cells #[.string (bstr l)] 287 (0, 0))

theorem in_read (l : List UInt8) (w : World) :
    Calls Tryz.prog 186 #[.string (bstr l)] w fun e w' => e = .returned (.pointer (some ⟨w.heap.size, 0, none⟩)) ∧ w.alloc (.cells #[.string (bstr l)] 287) = w' := by
  go_enter Tryz.func186, Tryz.ntmps186
  go_wp2
  go_ret
  exact ⟨rfl, rfl⟩


theorem in_text (i : Nat) (l : List UInt8) (n : Nat) (hn : n ≤ l.length) (hl : l.length ≤ 1000000) (w : World) (h : InAt w i l) :
    Calls Tryz.prog 187 #[.pointer (some ⟨i, 0, none⟩), .int .i64 (n : Int)] w fun e w' => e = .returned (.string (bstr (l.take n))) ∧ w' = w.setCell ⟨i, 0, none⟩ (.string (bstr (l.drop n))) := by
  have hc := cell_blk h
  have hf := frozen_blk h
  have hs := size_bstr l
  have HL := Lib.hid hl
  clear hl
  go_enter Tryz.func187, Tryz.ntmps187
  go_wp2
  go_ret
  exact ⟨by rw [← take_bstr]; rfl, by rw [drop_bstr]⟩

theorem in_text_end (i : Nat) (l : List UInt8) (n : Nat) (hn : l.length < n) (hl : l.length ≤ 1000000) (w : World) (h : InAt w i l) :
    Calls Tryz.prog 187 #[.pointer (some ⟨i, 0, none⟩), .int .i64 (n : Int)] w fun e w' => e = failed 2 ∧ w = w' := by
  have hc := cell_blk h
  have hf := frozen_blk h
  have hs := size_bstr l
  have HL := Lib.hid hl
  clear hl
  go_enter Tryz.func187, Tryz.ntmps187
  go_wp2_with (go_at_call 63; refine (fail_any _ _).mono ?_; rintro e w' ⟨rfl, rfl⟩)
  exact ⟨rfl, rfl, rfl⟩

theorem in_done (i : Nat) (w : World) (h : InAt w i []) :
    Calls Tryz.prog 189 #[.pointer (some ⟨i, 0, none⟩)] w fun e w' => e = unit0 ∧ w = w' := by
  have hc := cell_blk h
  have e0 := toList_bstr []
  go_enter Tryz.func189, Tryz.ntmps189
  go_wp2
  go_end0
  exact ⟨rfl, rfl⟩

theorem in_done_left (i : Nat) (l : List UInt8) (hl : l ≠ []) (w : World) (h : InAt w i l) :
    Calls Tryz.prog 189 #[.pointer (some ⟨i, 0, none⟩)] w fun e w' => e = failed 1 ∧ w = w' := by
  have hc := cell_blk h
  have e0 : (!(bstr l).toList.isEmpty) = true := by rw [toList_bstr]; cases l with | nil => exact absurd rfl hl | cons _ _ => rfl
  go_enter Tryz.func189, Tryz.ntmps189
  go_wp2_with (go_at_call 63; refine (fail_any _ _).mono ?_; rintro e w' ⟨rfl, rfl⟩)
  exact ⟨rfl, rfl, rfl⟩

theorem or_byte (N c : Nat) (hN : N < 72057594037927936) (hc : c < 256) : bits .or .u64 (IntKind.u64.wrap ((N : Int) * 256)) (IntKind.u64.wrap (c : Int)) = ((256 * N + c : Nat) : Int) := by
  have e1 : IntKind.u64.wrap ((N : Int) * 256) = ((2 ^ 8 * N : Nat) : Int) := by
    have h0 : IntKind.u64.bits = 64 := rfl
    have h1 : IntKind.u64.signed = false := rfl
    simp only [IntKind.wrap, h0, h1, Bool.false_and, Bool.false_eq_true, if_false]
    omega
  have e2 : IntKind.u64.wrap (c : Int) = (c : Int) := by
    have h0 : IntKind.u64.bits = 64 := rfl
    have h1 : IntKind.u64.signed = false := rfl
    simp only [IntKind.wrap, h0, h1, Bool.false_and, Bool.false_eq_true, if_false]
    omega
  rw [e1, e2, u64_or_nat _ _ (by omega) (by omega), ← Nat.two_pow_add_eq_or_of_lt (by omega)]

theorem take_snoc_be (l : List UInt8) (k : Nat) (h : k < l.length) : beNat (l.take (k + 1)) = 256 * beNat (l.take k) + (l[k]?.getD 0).toNat := by
  have e : l.take (k + 1) = l.take k ++ [l[k]] := by rw [List.take_add_one, List.getElem?_eq_getElem h]; rfl
  rw [e, beNat_snoc, List.getElem?_eq_getElem h]
  rfl

set_option maxHeartbeats 1000000 in
theorem in_num (i : Nat) (l : List UInt8) (n : Nat) (h1 : 1 ≤ n) (h8 : n ≤ 7) (hn : n ≤ l.length) (hl : l.length ≤ 1000000) (w : World) (h : InAt w i l) :
    Calls Tryz.prog 188 #[.pointer (some ⟨i, 0, none⟩), .int .i64 (n : Int)] w fun e w' => e = .returned (.int .u64 (beNat (l.take n) : Nat)) ∧ InAt w' i (l.drop n) ∧ Fr (fun k => k = i) w w' := by
  have hcv := fun (W : World) => Lib.run_convert_string_bytes (P := Tryz.prog) W 9 102 5 (bstr (l.take n)) Tryz.underlying9 Tryz.underlying102 Tryz.underlying5
  have hsz : (bstr (l.take n)).size = n := by rw [size_bstr, List.length_take]; omega
  have HL := Lib.hid hl
  clear hl
  go_enter Tryz.func188, Tryz.ntmps188
  go_wp2_with (go_at_call 187; refine (in_text i l n hn HL.out _ h).mono ?_; rintro e w' ⟨rfl, rfl⟩)
  have hF : Fr (fun k => k = i) w (Lib.bytesWorld (w.setCell ⟨i, 0, none⟩ (.string (bstr (l.drop n)))) 5 (bstr (l.take n))) := by
    have h2 : Fr (fun _ => False) (w.setCell ⟨i, 0, none⟩ (.string (bstr (l.drop n)))) (Lib.bytesWorld (w.setCell ⟨i, 0, none⟩ (.string (bstr (l.drop n)))) 5 (bstr (l.take n))) :=
      ⟨rfl, rfl, rfl, by rw [Lib.bytesWorld_size]; omega, fun x hx _ => Lib.bytesWorld_at_old _ _ _ x hx⟩
    exact ((Fr.refl (fun k => k = i) w).setCell (p := ⟨i, 0, none⟩) (fun _ => rfl) _).trans h2 (fun _ _ h => h.elim)
  have hI : InAt (Lib.bytesWorld (w.setCell ⟨i, 0, none⟩ (.string (bstr (l.drop n)))) 5 (bstr (l.take n))) i (l.drop n) := by
    have := blk_set (i := 0) (v := .string (bstr (l.drop n))) h
    exact (Lib.bytesWorld_at_old _ _ _ i (lt_of_blk this)).trans this
  have hcell : ∀ j, j < n → (Lib.bytesWorld (w.setCell ⟨i, 0, none⟩ (.string (bstr (l.drop n)))) 5 (bstr (l.take n))).cell? ⟨w.heap.size, j, none⟩ = some (.int .u8 ((l.getD j 0).toNat : Nat)) := by
    intro j hj
    have := Lib.bytesWorld_cell (w.setCell ⟨i, 0, none⟩ (.string (bstr (l.drop n)))) 5 (bstr (l.take n)) j (by omega)
    rw [World.size_setCell, data_bstr] at this
    rw [this]
    simp [List.getD, hj]
  generalize grownCap (w.setCell ⟨i, 0, none⟩ (.string (bstr (l.drop n)))) n 0 5 = cp
  generalize Lib.bytesWorld (w.setCell ⟨i, 0, none⟩ (.string (bstr (l.drop n)))) 5 (bstr (l.take n)) = W at hF hI hcell ⊢
  clear hcv hsz
  go_loop [5, 15] (fun a j => ∃ k : Nat, k ≤ n ∧ j = .int .i64 (k : Int) ∧ a = .int .u64 ((beNat (l.take k) : Nat) : Int)) (fun _ j => n - (intOf j).toNat)
  case atStart => exact ⟨0, Nat.zero_le _, rfl, rfl⟩
  case round =>
    obtain ⟨k, hk, rfl, rfl⟩ := hrel
    by_cases hlt : k < n
    · have hcx := hcell k hlt
      go_wp2
      have hlt' : beNat (l.take k) < 72057594037927936 := by
        have h1 := beNat_lt (l.take k)
        have h2 : (256 : Nat) ^ (l.take k).length ≤ 256 ^ 7 := Nat.pow_le_pow_right (by omega) (by rw [List.length_take]; omega)
        omega
      refine ⟨⟨k + 1, by omega, by go_num, ?_⟩, by simp [intOf]; omega⟩
      rw [or_byte _ _ hlt' (UInt8.toNat_lt _), take_snoc_be l k (by omega)]
    · have hkn : k = n := by omega
      subst hkn
      go_wp2
      go_ret
      exact ⟨rfl, hI, hF⟩

end Go.Proofs.YtajojhfialbfkaaGreatDoor
