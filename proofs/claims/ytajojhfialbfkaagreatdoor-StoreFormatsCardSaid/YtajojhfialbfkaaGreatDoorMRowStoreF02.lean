/- Layer 3: what fails goes no further than its Guard. -/
import Derived.Recover
import Derived.Test.YtajojhfialbfkaaGreatDoorMRowStoreF01
namespace Go.Proofs.YtajojhfialbfkaaGreatDoor
open Go.RowKit

/-- What pack.Fail lays. -/
abbrev fault (n : Int) : Value := .iface 196 (.agg #[.int .i64 n])

set_option maxRecDepth 100000

theorem assert_fault (n : Int) (w : World) : (Instr.typeAssert (fault n) 20 196 true).run Tryz.prog w = .ok (.tuple #[.agg #[.int .i64 n], .bool true]) w := by kernel_rfl
theorem fault_nil (n : Int) (w : World) : (binOp .eql 20 (fault n) .nilIface).run Tryz.prog w = .ok (.bool false) w := by kernel_rfl

theorem catch_failing (b : Nat) (x n : Int) (older : List PanicEntry) (w : World) (hb : w.heap[b]? = some (.cells #[.int .i64 x] 29 (0, 0))) :
    CallsD Tryz.prog 150 #[.pointer (some ⟨b, 0, none⟩)] (.panicking ({ v := fault n, recovered := false } :: older)) w fun e u' w' =>
      e = .returned (.tuple #[]) ∧ u' = .panicking ({ v := fault n, recovered := true } :: older) ∧ (w.alloc (.cells #[.int .i64 n] 196)).setCell ⟨b, 0, none⟩ (.int .i64 n) = w' := by
  have hc := cell_blk (blk_alloc (o' := .cells #[.int .i64 n] 196) hb)
  have hf := frozen_blk (blk_alloc (o' := .cells #[.int .i64 n] 196) hb)
  have hb' : b ≠ w.heap.size := Nat.ne_of_lt (lt_of_blk hb)
  have hta := assert_fault n
  have hfn := fault_nil n
  refine callsD_of_wpS Tryz.func150 rfl fun c₀ cs hu => ?_
  apply wpS_seq
  apply wpS_region
  simp [wpOpsS, go_sem, recoverD, hu, Tryz.ntmps150, Exit.thenS, Array.replicate]
  refine wpS_of_wp ?_
  clear hb
  go_wp2
  simp [bodyPostS, results, Tryz.results150]

theorem catch_idle (b : Nat) (w : World) :
    CallsD Tryz.prog 150 #[.pointer (some ⟨b, 0, none⟩)] .returning w fun e u' w' => e = .returned (.tuple #[]) ∧ u' = .returning ∧ w = w' := by
  refine callsD_of_wpS Tryz.func150 rfl fun c₀ cs hu => ?_
  apply wpS_seq
  apply wpS_region
  simp [wpOpsS, go_sem, recoverD, hu, Tryz.ntmps150, Exit.thenS, Array.replicate]
  have hn : ∀ w, (binOp .eql 20 .nilIface .nilIface).run Tryz.prog w = .ok (.bool true) w := fun _ => by kernel_rfl
  refine wpS_of_wp ?_
  go_wp2
  cases c₀
  simp_all [bodyPostS, results, Tryz.results150]

/-- What a call within a Guard may come to: it returns, or fails. -/
def Comes0 (R : Option Int → World → Prop) (e : Ending) (w : World) : Prop := (e = unit0 ∧ R none w) ∨ ∃ n, e = failed n ∧ R (some n) w

/-- A function that has a body is entered. -/
def Enters (f : FuncId) (args : Array Value) : Prop := ∀ w, (callFunc f args).run Tryz.prog w = .ok (.enter f args) w

theorem try_any (b : Nat) (f : FuncId) (first cap : Array Value) (he : Enters f (first ++ cap)) (w : World) (R : Option Int → World → Prop)
    (h : Calls Tryz.prog f (first ++ cap) w fun e w2 => w2.heap[b]? = some (.cells #[.int .i64 0] 29 (0, 0)) ∧ Comes0 R e w2) :
    Calls Tryz.prog 99 #[.func (.func f) first cap, .pointer (some ⟨b, 0, none⟩)] w fun e w' => e = unit0 ∧ ∃ o w2, R o w2 ∧ Fr (fun k => k = b) w2 w' ∧ w'.heap[b]? = some (.cells #[.int .i64 (o.getD 0)] 29 (0, 0)) := by
  have hen := he w
  have H := Lib.hid h
  clear h
  go_enter_defers Tryz.func99, Tryz.ntmps99
  go_wp2_with fail
  refine H.out.mono ?_
  rintro e w2 ⟨hb, ⟨rfl, hR⟩ | ⟨n, rfl, hR⟩⟩
  · go_wp2_with fail
    refine leaves_cons (f := 150) (args := #[.pointer (some ⟨b, 0, none⟩)]) (by simp) (by simp [go_sem]) ?_
    refine (catch_idle b w2).mono ?_
    rintro e u' w3 ⟨rfl, rfl, rfl⟩
    refine ⟨_, results_none rfl _ _ _, rfl, none, w2, hR, Fr.refl _ _, hb⟩
  · go_wp2_with fail
    refine leaves_cons (f := 150) (args := #[.pointer (some ⟨b, 0, none⟩)]) (by simp) (by simp [go_sem]) ?_
    refine (catch_failing b 0 n [] w2 hb).mono ?_
    rintro e u' w3 ⟨rfl, rfl, rfl⟩
    simp only [settle]
    refine ⟨_, results_none rfl _ _ _, rfl, some n, w2, hR, ((Fr.refl (fun k => k = b) w2).alloc _).setCell (p := ⟨b, 0, none⟩) (fun _ => rfl) _, blk_set (blk_alloc hb)⟩

theorem guard_any (f : FuncId) (first cap : Array Value) (he : Enters f (first ++ cap)) (w : World) (R : Option Int → World → Prop)
    (h : Calls Tryz.prog f (first ++ cap) (w.alloc (.cells #[.int .i64 0] 29)) fun e w2 => w2.heap[w.heap.size]? = some (.cells #[.int .i64 0] 29 (0, 0)) ∧ Comes0 R e w2) :
    Calls Tryz.prog 43 #[.func (.func f) first cap] w fun e w' => ∃ o w2, e = .returned (.int .i64 (o.getD 0)) ∧ R o w2 ∧ Fr (fun k => k = w.heap.size) w2 w' := by
  have H := Lib.hid h
  clear h
  go_enter Tryz.func43, Tryz.ntmps43
  go_wp2_with fail
  refine (try_any w.heap.size f first cap he _ R H.out).mono ?_
  rintro e w' ⟨rfl, o, w2, hR, hF, hb⟩
  have hc := cell_blk hb
  go_wp2
  go_ret
  exact ⟨o, w2, rfl, hR, hF⟩

end Go.Proofs.YtajojhfialbfkaaGreatDoor
/- Layer 6: which sectors are free: the contracts. -/
namespace Go.Proofs.YtajojhfialbfkaaGreatDoor
open Go.RowKit
set_option maxRecDepth 100000

/-- A range of sectors: what each is (0 free, 1 held, 2 late). -/
structure GS where
  from_ : Nat
  l : List Nat

def icells (l : List Nat) : List Value := l.map fun n : Nat => Value.int .i64 (n : Int)

structure GrAt (w : World) (m : Nat) (sv : Value) (G : GS) : Prop where
  hm : w.heap[m]? = some (.cells #[.int .i64 (G.from_ : Int), sv, .int .i64 (G.l.count 0 : Nat), .int .i64 (G.l.count 1 : Nat), .int .i64 (G.l.count 2 : Nat)] 193 (0, 0))
  row : w.ownsRow 0 3 1 sv G.l.length (icells G.l)

def GrF (m : Nat) (sv : Value) : Nat → Prop := fun k => k = m ∨ sv.ownBlock = some k

/-- All are of three kinds; the numbers are small. -/
structure GS.ok (G : GS) : Prop where
  kinds : ∀ x ∈ G.l, x ≤ 2
  len : G.l.length ≤ 4096
  from_ : G.from_ ≤ 4096

/-- Is a sector so? -/
def GS.is (G : GS) (at_ what : Nat) : Bool := decide (G.from_ ≤ at_) && decide (G.l[at_ - G.from_]? = some what)

theorem GrAt.fr {w w' : World} {m : Nat} {sv : Value} {G : GS} {F : Nat → Prop} (h : GrAt w m sv G) (hf : Fr F w w') (hn : ∀ k, GrF m sv k → ¬ F k) : GrAt w' m sv G :=
  ⟨hf.blk h.hm (hn m (.inl rfl)), ownsRow_fr h.row hf (fun k hk => hn k (.inr hk))⟩
theorem GrAt.lt {w : World} {m : Nat} {sv : Value} {G : GS} (h : GrAt w m sv G) : ∀ k, GrF m sv k → k < w.heap.size := by
  rintro k (rfl | hk)
  · exact lt_of_blk h.hm
  · exact (h.row.lt k hk).2

section
variable {w : World} {m : Nat} {sv : Value} {G : GS}

theorem gr_free (h : GrAt w m sv G) : Calls Tryz.prog 57 #[.pointer (some ⟨m, 0, none⟩)] w fun e w' => e = .returned (.int .i64 (G.l.count 0 : Nat)) ∧ w = w' := by
  have hc := cell_blk h.hm
  go_enter Tryz.func57, Tryz.ntmps57
  go_wp2
  go_ret
  exact ⟨rfl, rfl⟩


theorem icells_get (l : List Nat) (i : Nat) (h : i < l.length) : (icells l)[i]? = some (.int .i64 (l[i] : Int)) := by simp [icells, h]
theorem icells_length (l : List Nat) : (icells l).length = l.length := by simp [icells]
theorem icells_set (l : List Nat) (i v : Nat) : (icells l).set i (.int .i64 (v : Int)) = icells (l.set i v) := by simp [icells, List.map_set]

/-- The cells of a range: one of them. -/
theorem GrAt.at_ (h : GrAt w m sv G) (i : Nat) (hi : i < G.l.length) : ∃ g cap, sv = .slice (some ⟨g, 0, none⟩) G.l.length cap ∧ cap ≤ maxLen ∧ w.cell? ⟨g, i, none⟩ = some (.int .i64 (G.l[i] : Int)) ∧ w.frozen? ⟨g, i, none⟩ = false := by
  obtain ⟨g, cap, cur, rfl, k1, k2, k3, k4, k5⟩ := ownsRow_at h.row (by omega)
  have := h.row.cellAt i (by omega)
  rw [icells_get _ _ hi] at this
  exact ⟨g, cap, rfl, k2, this, h.row.frozenAt i⟩

theorem gr_is (h : GrAt w m sv G) (ok : G.ok) (a what : Nat) (ha : a ≤ 100000) : Calls Tryz.prog 224 #[.pointer (some ⟨m, 0, none⟩), .int .i64 (a : Int), .int .i64 (what : Int)] w fun e w' =>
    e = .returned (.bool (G.is a what)) ∧ ∃ n, w' = w.drewN n := by
  have hc := cell_blk h.hm
  have h1 := ok.len
  have h2 := ok.from_
  by_cases hf : G.from_ ≤ a
  · have hd : decide ((G.from_ : Int) ≤ (a : Int)) = true := by simp; omega
    by_cases hl : a - G.from_ < G.l.length
    · have hd2 : decide ((a : Int) - (G.from_ : Int) < (G.l.length : Int)) = true := by simp; omega
      have h01 : (0 : Int) ≤ (a : Int) - (G.from_ : Int) := by omega
      have h02 : (a : Int) - (G.from_ : Int) < (G.l.length : Int) := by omega
      obtain ⟨g, cap, rfl, k2, hx, _⟩ := h.at_ (a - G.from_) hl
      have eN : ((a : Int) - (G.from_ : Int)).toNat = a - G.from_ := by omega
      have wN : IntKind.i64.wrap ((a : Int) - (G.from_ : Int)) = (a : Int) - (G.from_ : Int) := IntWalk.i64_in _ (by omega)
      by_cases hq : G.l[a - G.from_] = what
      · have fin : G.is a what = true := by simp [GS.is, hf, List.getElem?_eq_getElem hl, hq]
        have hb : ((G.l[a - G.from_] : Int) == (what : Int)) = true := by simp [hq]
        have HF := Lib.hid fin
        clear fin h ok hq
        rw [HF.out]
        generalize G.l[a - G.from_] = x at hx hb
        go_enter Tryz.func224, Tryz.ntmps224
        go_wp2_with fail
        go_quiet (fail)
        go_wp2
        go_ret
        exact ⟨rfl, nq, rfl⟩
      · have fin : G.is a what = false := by simp [GS.is, hf, List.getElem?_eq_getElem hl, hq]
        have hb : ((G.l[a - G.from_] : Int) == (what : Int)) = false := by simp; omega
        have HF := Lib.hid fin
        clear fin h ok hq
        rw [HF.out]
        generalize G.l[a - G.from_] = x at hx hb
        go_enter Tryz.func224, Tryz.ntmps224
        go_wp2_with fail
        go_quiet (fail)
        go_wp2
        go_ret
        exact ⟨rfl, nq, rfl⟩
    · have hd2 : decide ((a : Int) - (G.from_ : Int) < (G.l.length : Int)) = false := by simp; omega
      have fin : G.is a what = false := by simp [GS.is, hf, List.getElem?_eq_none (by omega : G.l.length ≤ a - G.from_)]
      obtain ⟨ao, cap, rfl, k1, k2⟩ := ownsRow_form h.row
      have wN : IntKind.i64.wrap ((a : Int) - (G.from_ : Int)) = (a : Int) - (G.from_ : Int) := IntWalk.i64_in _ (by omega)
      have HF := Lib.hid fin
      clear fin h ok
      rw [HF.out]
      go_enter Tryz.func224, Tryz.ntmps224
      go_wp2_with fail
      go_quiet (fail)
      go_wp2
      go_ret
      exact ⟨rfl, nq, rfl⟩
  · have hd : decide ((G.from_ : Int) ≤ (a : Int)) = false := by simp; omega
    have fin : G.is a what = false := by simp [GS.is, hf]
    obtain ⟨ao, cap, rfl, k1, k2⟩ := ownsRow_form h.row
    have HF := Lib.hid fin
    clear fin h ok
    rw [HF.out]
    go_enter Tryz.func224, Tryz.ntmps224
    go_wp2_with fail
    go_quiet (fail)
    go_wp2
    go_ret
    exact ⟨rfl, nq, rfl⟩
end
end Go.Proofs.YtajojhfialbfkaaGreatDoor
/- Layer 6: a sector is so (grants' 'set'). Printed by wip/gen/grset.py. -/
namespace Go.Proofs.YtajojhfialbfkaaGreatDoor
open Go.RowKit
set_option maxRecDepth 100000

theorem gr_set_00 {w : World} {m g len cap a f n0 n1 n2 : Nat} (hf : f ≤ a) (hl : a - f < len) (h1 : len ≤ 4096) (_h2 : f ≤ 4096) (hne : m ≠ g) (c0 : n0 ≤ 4096) (_c1 : n1 ≤ 4096) (_c2 : n2 ≤ 4096) (hp : 0 < n0)
    (hm : w.heap[m]? = some (.cells #[.int .i64 (f : Int), .slice (some ⟨g, 0, none⟩) len cap, .int .i64 (n0 : Int), .int .i64 (n1 : Int), .int .i64 (n2 : Int)] 193 (0, 0)))
    (hx : w.cell? ⟨g, a - f, none⟩ = some (.int .i64 0)) (hfx : w.frozen? ⟨g, a - f, none⟩ = false) :
    Calls Tryz.prog 131 #[.pointer (some ⟨m, 0, none⟩), .int .i64 (a : Int), .int .i64 0] w fun e w' =>
      e = unit0 ∧ ∃ n, w' = (((w.drewN n).setCell ⟨m, 2, none⟩ (.int .i64 ((n0 : Int) - 1))).setCell ⟨g, a - f, none⟩ (.int .i64 0)).setCell ⟨m, 2, none⟩ (.int .i64 (n0 : Int)) := by
  have h01 : (0 : Int) ≤ (a : Int) - (f : Int) := by omega
  have h02 : (a : Int) - (f : Int) < (len : Int) := by omega
  have eN : ((a : Int) - (f : Int)).toNat = a - f := by omega
  have wN : IntKind.i64.wrap ((a : Int) - (f : Int)) = (a : Int) - (f : Int) := IntWalk.i64_in _ (by omega)
  have w1 : IntKind.i64.wrap ((n0 : Int) - 1) = (n0 : Int) - 1 := IntWalk.i64_in _ (by omega)
  have w2 : IntKind.i64.wrap (n0 : Int) = (n0 : Int) := IntWalk.i64_in _ (by omega)
  have hgm : g ≠ m := Ne.symm hne
  have hc := cell_blk hm
  have hfm := frozen_blk hm
  go_enter Tryz.func131, Tryz.ntmps131
  go_wp2_with fail
  refine wp_region_mix 21 (fun w' => (∀ i, w'.cell? ⟨m, i, none⟩ = #[.int .i64 (f : Int), .slice (some ⟨g, 0, none⟩) len cap, .int .i64 (n0 : Int), .int .i64 (n1 : Int), .int .i64 (n2 : Int)][i]?) ∧ w'.cell? ⟨g, a - f, none⟩ = some (.int .i64 0)) [true, true, true, true, true, true, true, true, true, true, true, true, true, true, true, true, true, true, true, true, true] (by kernel_rfl) (by kernel_rfl) ?_ (by intro c a d v w h; cases d <;> exact h) ?_
  · exact ⟨hc, hx⟩
  simp only [List.take_succ_cons, List.take_zero, List.drop_succ_cons, List.drop_zero]
  repeat ((with_reducible refine wpMix_read ?_ (fun K hK => ?_)); (focus rfl); apply Exists.intro; refine ⟨fun w' hS => ?_, ?_⟩; (focus (try dsimp only at hS; go_simp; try rfl)); go_simp; refine hK _ ?_; clear hK K)
  refine wpMix_nil ?_
  go_wp2_with fail
  have hm1 := blk_set (i := 2) (v := .int .i64 ((n0 : Int) - 1)) hm
  have hx1 : (w.setCell ⟨m, 2, none⟩ (.int .i64 ((n0 : Int) - 1))).cell? ⟨g, a - f, none⟩ = some (.int .i64 0) := (World.cell?_setCell_other _ _ _ _ (by intro e; injection e with e1; exact hne e1)).trans hx
  simp only [List.setIfInBounds_toArray, List.set_cons_zero, List.set_cons_succ] at hm1
  have hc1 := cell_blk hm1
  clear hc
  refine wp_region_mix 12 (fun w' => (∀ i, w'.cell? ⟨m, i, none⟩ = #[.int .i64 (f : Int), .slice (some ⟨g, 0, none⟩) len cap, .int .i64 ((n0 : Int) - 1), .int .i64 (n1 : Int), .int .i64 (n2 : Int)][i]?) ∧ w'.cell? ⟨g, a - f, none⟩ = some (.int .i64 0)) [true, true, true, true, true, true, true, true, true, true, true, true] (by kernel_rfl) (by kernel_rfl) ?_ (by intro c a d v w h; cases d <;> exact h) ?_
  · exact ⟨hc1, hx1⟩
  simp only [List.take_succ_cons, List.take_zero, List.drop_succ_cons, List.drop_zero]
  repeat ((with_reducible refine wpMix_read ?_ (fun K hK => ?_)); (focus rfl); apply Exists.intro; refine ⟨fun w' hS => ?_, ?_⟩; (focus (try dsimp only at hS; go_simp; try rfl)); go_simp; refine hK _ ?_; clear hK K)
  refine wpMix_nil ?_
  go_wp2_with fail
  have hm2 := blk_far (p := ⟨g, a - f, none⟩) (v := .int .i64 0) hm1 hne
  have hx2 : ((w.setCell ⟨m, 2, none⟩ (.int .i64 ((n0 : Int) - 1))).setCell ⟨g, a - f, none⟩ (.int .i64 0)).cell? ⟨g, a - f, none⟩ = some (.int .i64 0) := World.cell?_setCell_same _ _ _ hx1
  have hc2 := cell_blk hm2
  clear hc1 hx1
  refine wp_region_mix 10 (fun w' => (∀ i, w'.cell? ⟨m, i, none⟩ = #[.int .i64 (f : Int), .slice (some ⟨g, 0, none⟩) len cap, .int .i64 ((n0 : Int) - 1), .int .i64 (n1 : Int), .int .i64 (n2 : Int)][i]?) ∧ w'.cell? ⟨g, a - f, none⟩ = some (.int .i64 0)) [true, true, true, true, true, true, true, true, true, true] (by kernel_rfl) (by kernel_rfl) ?_ (by intro c a d v w h; cases d <;> exact h) ?_
  · exact ⟨hc2, hx2⟩
  simp only [List.take_succ_cons, List.take_zero, List.drop_succ_cons, List.drop_zero]
  repeat ((with_reducible refine wpMix_read ?_ (fun K hK => ?_)); (focus rfl); apply Exists.intro; refine ⟨fun w' hS => ?_, ?_⟩; (focus (try dsimp only at hS; go_simp; try rfl)); go_simp; refine hK _ ?_; clear hK K)
  refine wpMix_nil ?_
  go_wp2_with fail
  go_end0
  exact ⟨rfl, 3, rfl⟩

theorem gr_set_01 {w : World} {m g len cap a f n0 n1 n2 : Nat} (hf : f ≤ a) (hl : a - f < len) (h1 : len ≤ 4096) (_h2 : f ≤ 4096) (hne : m ≠ g) (c0 : n0 ≤ 4096) (c1 : n1 ≤ 4096) (_c2 : n2 ≤ 4096) (hp : 0 < n0)
    (hm : w.heap[m]? = some (.cells #[.int .i64 (f : Int), .slice (some ⟨g, 0, none⟩) len cap, .int .i64 (n0 : Int), .int .i64 (n1 : Int), .int .i64 (n2 : Int)] 193 (0, 0)))
    (hx : w.cell? ⟨g, a - f, none⟩ = some (.int .i64 0)) (hfx : w.frozen? ⟨g, a - f, none⟩ = false) :
    Calls Tryz.prog 131 #[.pointer (some ⟨m, 0, none⟩), .int .i64 (a : Int), .int .i64 1] w fun e w' =>
      e = unit0 ∧ ∃ n, w' = (((w.drewN n).setCell ⟨m, 2, none⟩ (.int .i64 ((n0 : Int) - 1))).setCell ⟨g, a - f, none⟩ (.int .i64 1)).setCell ⟨m, 3, none⟩ (.int .i64 ((n1 : Int) + 1)) := by
  have h01 : (0 : Int) ≤ (a : Int) - (f : Int) := by omega
  have h02 : (a : Int) - (f : Int) < (len : Int) := by omega
  have eN : ((a : Int) - (f : Int)).toNat = a - f := by omega
  have wN : IntKind.i64.wrap ((a : Int) - (f : Int)) = (a : Int) - (f : Int) := IntWalk.i64_in _ (by omega)
  have w1 : IntKind.i64.wrap ((n0 : Int) - 1) = (n0 : Int) - 1 := IntWalk.i64_in _ (by omega)
  have w2 : IntKind.i64.wrap ((n1 : Int) + 1) = ((n1 : Int) + 1) := IntWalk.i64_in _ (by omega)
  have hgm : g ≠ m := Ne.symm hne
  have hc := cell_blk hm
  have hfm := frozen_blk hm
  go_enter Tryz.func131, Tryz.ntmps131
  go_wp2_with fail
  refine wp_region_mix 21 (fun w' => (∀ i, w'.cell? ⟨m, i, none⟩ = #[.int .i64 (f : Int), .slice (some ⟨g, 0, none⟩) len cap, .int .i64 (n0 : Int), .int .i64 (n1 : Int), .int .i64 (n2 : Int)][i]?) ∧ w'.cell? ⟨g, a - f, none⟩ = some (.int .i64 0)) [true, true, true, true, true, true, true, true, true, true, true, true, true, true, true, true, true, true, true, true, true] (by kernel_rfl) (by kernel_rfl) ?_ (by intro c a d v w h; cases d <;> exact h) ?_
  · exact ⟨hc, hx⟩
  simp only [List.take_succ_cons, List.take_zero, List.drop_succ_cons, List.drop_zero]
  repeat ((with_reducible refine wpMix_read ?_ (fun K hK => ?_)); (focus rfl); apply Exists.intro; refine ⟨fun w' hS => ?_, ?_⟩; (focus (try dsimp only at hS; go_simp; try rfl)); go_simp; refine hK _ ?_; clear hK K)
  refine wpMix_nil ?_
  go_wp2_with fail
  have hm1 := blk_set (i := 2) (v := .int .i64 ((n0 : Int) - 1)) hm
  have hx1 : (w.setCell ⟨m, 2, none⟩ (.int .i64 ((n0 : Int) - 1))).cell? ⟨g, a - f, none⟩ = some (.int .i64 0) := (World.cell?_setCell_other _ _ _ _ (by intro e; injection e with e1; exact hne e1)).trans hx
  simp only [List.setIfInBounds_toArray, List.set_cons_zero, List.set_cons_succ] at hm1
  have hc1 := cell_blk hm1
  clear hc
  refine wp_region_mix 12 (fun w' => (∀ i, w'.cell? ⟨m, i, none⟩ = #[.int .i64 (f : Int), .slice (some ⟨g, 0, none⟩) len cap, .int .i64 ((n0 : Int) - 1), .int .i64 (n1 : Int), .int .i64 (n2 : Int)][i]?) ∧ w'.cell? ⟨g, a - f, none⟩ = some (.int .i64 0)) [true, true, true, true, true, true, true, true, true, true, true, true] (by kernel_rfl) (by kernel_rfl) ?_ (by intro c a d v w h; cases d <;> exact h) ?_
  · exact ⟨hc1, hx1⟩
  simp only [List.take_succ_cons, List.take_zero, List.drop_succ_cons, List.drop_zero]
  repeat ((with_reducible refine wpMix_read ?_ (fun K hK => ?_)); (focus rfl); apply Exists.intro; refine ⟨fun w' hS => ?_, ?_⟩; (focus (try dsimp only at hS; go_simp; try rfl)); go_simp; refine hK _ ?_; clear hK K)
  refine wpMix_nil ?_
  go_wp2_with fail
  have hm2 := blk_far (p := ⟨g, a - f, none⟩) (v := .int .i64 1) hm1 hne
  have hx2 : ((w.setCell ⟨m, 2, none⟩ (.int .i64 ((n0 : Int) - 1))).setCell ⟨g, a - f, none⟩ (.int .i64 1)).cell? ⟨g, a - f, none⟩ = some (.int .i64 1) := World.cell?_setCell_same _ _ _ hx1
  have hc2 := cell_blk hm2
  clear hc1 hx1
  refine wp_region_mix 10 (fun w' => (∀ i, w'.cell? ⟨m, i, none⟩ = #[.int .i64 (f : Int), .slice (some ⟨g, 0, none⟩) len cap, .int .i64 ((n0 : Int) - 1), .int .i64 (n1 : Int), .int .i64 (n2 : Int)][i]?) ∧ w'.cell? ⟨g, a - f, none⟩ = some (.int .i64 1)) [true, true, true, true, true, true, true, true, true, true] (by kernel_rfl) (by kernel_rfl) ?_ (by intro c a d v w h; cases d <;> exact h) ?_
  · exact ⟨hc2, hx2⟩
  simp only [List.take_succ_cons, List.take_zero, List.drop_succ_cons, List.drop_zero]
  repeat ((with_reducible refine wpMix_read ?_ (fun K hK => ?_)); (focus rfl); apply Exists.intro; refine ⟨fun w' hS => ?_, ?_⟩; (focus (try dsimp only at hS; go_simp; try rfl)); go_simp; refine hK _ ?_; clear hK K)
  refine wpMix_nil ?_
  go_wp2_with fail
  go_end0
  exact ⟨rfl, 3, rfl⟩

theorem gr_set_02 {w : World} {m g len cap a f n0 n1 n2 : Nat} (hf : f ≤ a) (hl : a - f < len) (h1 : len ≤ 4096) (_h2 : f ≤ 4096) (hne : m ≠ g) (c0 : n0 ≤ 4096) (_c1 : n1 ≤ 4096) (c2 : n2 ≤ 4096) (hp : 0 < n0)
    (hm : w.heap[m]? = some (.cells #[.int .i64 (f : Int), .slice (some ⟨g, 0, none⟩) len cap, .int .i64 (n0 : Int), .int .i64 (n1 : Int), .int .i64 (n2 : Int)] 193 (0, 0)))
    (hx : w.cell? ⟨g, a - f, none⟩ = some (.int .i64 0)) (hfx : w.frozen? ⟨g, a - f, none⟩ = false) :
    Calls Tryz.prog 131 #[.pointer (some ⟨m, 0, none⟩), .int .i64 (a : Int), .int .i64 2] w fun e w' =>
      e = unit0 ∧ ∃ n, w' = (((w.drewN n).setCell ⟨m, 2, none⟩ (.int .i64 ((n0 : Int) - 1))).setCell ⟨g, a - f, none⟩ (.int .i64 2)).setCell ⟨m, 4, none⟩ (.int .i64 ((n2 : Int) + 1)) := by
  have h01 : (0 : Int) ≤ (a : Int) - (f : Int) := by omega
  have h02 : (a : Int) - (f : Int) < (len : Int) := by omega
  have eN : ((a : Int) - (f : Int)).toNat = a - f := by omega
  have wN : IntKind.i64.wrap ((a : Int) - (f : Int)) = (a : Int) - (f : Int) := IntWalk.i64_in _ (by omega)
  have w1 : IntKind.i64.wrap ((n0 : Int) - 1) = (n0 : Int) - 1 := IntWalk.i64_in _ (by omega)
  have w2 : IntKind.i64.wrap ((n2 : Int) + 1) = ((n2 : Int) + 1) := IntWalk.i64_in _ (by omega)
  have hgm : g ≠ m := Ne.symm hne
  have hc := cell_blk hm
  have hfm := frozen_blk hm
  go_enter Tryz.func131, Tryz.ntmps131
  go_wp2_with fail
  refine wp_region_mix 21 (fun w' => (∀ i, w'.cell? ⟨m, i, none⟩ = #[.int .i64 (f : Int), .slice (some ⟨g, 0, none⟩) len cap, .int .i64 (n0 : Int), .int .i64 (n1 : Int), .int .i64 (n2 : Int)][i]?) ∧ w'.cell? ⟨g, a - f, none⟩ = some (.int .i64 0)) [true, true, true, true, true, true, true, true, true, true, true, true, true, true, true, true, true, true, true, true, true] (by kernel_rfl) (by kernel_rfl) ?_ (by intro c a d v w h; cases d <;> exact h) ?_
  · exact ⟨hc, hx⟩
  simp only [List.take_succ_cons, List.take_zero, List.drop_succ_cons, List.drop_zero]
  repeat ((with_reducible refine wpMix_read ?_ (fun K hK => ?_)); (focus rfl); apply Exists.intro; refine ⟨fun w' hS => ?_, ?_⟩; (focus (try dsimp only at hS; go_simp; try rfl)); go_simp; refine hK _ ?_; clear hK K)
  refine wpMix_nil ?_
  go_wp2_with fail
  have hm1 := blk_set (i := 2) (v := .int .i64 ((n0 : Int) - 1)) hm
  have hx1 : (w.setCell ⟨m, 2, none⟩ (.int .i64 ((n0 : Int) - 1))).cell? ⟨g, a - f, none⟩ = some (.int .i64 0) := (World.cell?_setCell_other _ _ _ _ (by intro e; injection e with e1; exact hne e1)).trans hx
  simp only [List.setIfInBounds_toArray, List.set_cons_zero, List.set_cons_succ] at hm1
  have hc1 := cell_blk hm1
  clear hc
  refine wp_region_mix 12 (fun w' => (∀ i, w'.cell? ⟨m, i, none⟩ = #[.int .i64 (f : Int), .slice (some ⟨g, 0, none⟩) len cap, .int .i64 ((n0 : Int) - 1), .int .i64 (n1 : Int), .int .i64 (n2 : Int)][i]?) ∧ w'.cell? ⟨g, a - f, none⟩ = some (.int .i64 0)) [true, true, true, true, true, true, true, true, true, true, true, true] (by kernel_rfl) (by kernel_rfl) ?_ (by intro c a d v w h; cases d <;> exact h) ?_
  · exact ⟨hc1, hx1⟩
  simp only [List.take_succ_cons, List.take_zero, List.drop_succ_cons, List.drop_zero]
  repeat ((with_reducible refine wpMix_read ?_ (fun K hK => ?_)); (focus rfl); apply Exists.intro; refine ⟨fun w' hS => ?_, ?_⟩; (focus (try dsimp only at hS; go_simp; try rfl)); go_simp; refine hK _ ?_; clear hK K)
  refine wpMix_nil ?_
  go_wp2_with fail
  have hm2 := blk_far (p := ⟨g, a - f, none⟩) (v := .int .i64 2) hm1 hne
  have hx2 : ((w.setCell ⟨m, 2, none⟩ (.int .i64 ((n0 : Int) - 1))).setCell ⟨g, a - f, none⟩ (.int .i64 2)).cell? ⟨g, a - f, none⟩ = some (.int .i64 2) := World.cell?_setCell_same _ _ _ hx1
  have hc2 := cell_blk hm2
  clear hc1 hx1
  refine wp_region_mix 10 (fun w' => (∀ i, w'.cell? ⟨m, i, none⟩ = #[.int .i64 (f : Int), .slice (some ⟨g, 0, none⟩) len cap, .int .i64 ((n0 : Int) - 1), .int .i64 (n1 : Int), .int .i64 (n2 : Int)][i]?) ∧ w'.cell? ⟨g, a - f, none⟩ = some (.int .i64 2)) [true, true, true, true, true, true, true, true, true, true] (by kernel_rfl) (by kernel_rfl) ?_ (by intro c a d v w h; cases d <;> exact h) ?_
  · exact ⟨hc2, hx2⟩
  simp only [List.take_succ_cons, List.take_zero, List.drop_succ_cons, List.drop_zero]
  repeat ((with_reducible refine wpMix_read ?_ (fun K hK => ?_)); (focus rfl); apply Exists.intro; refine ⟨fun w' hS => ?_, ?_⟩; (focus (try dsimp only at hS; go_simp; try rfl)); go_simp; refine hK _ ?_; clear hK K)
  refine wpMix_nil ?_
  go_wp2_with fail
  go_end0
  exact ⟨rfl, 3, rfl⟩

theorem gr_set_10 {w : World} {m g len cap a f n0 n1 n2 : Nat} (hf : f ≤ a) (hl : a - f < len) (h1 : len ≤ 4096) (_h2 : f ≤ 4096) (hne : m ≠ g) (c0 : n0 ≤ 4096) (c1 : n1 ≤ 4096) (_c2 : n2 ≤ 4096) (hp : 0 < n1)
    (hm : w.heap[m]? = some (.cells #[.int .i64 (f : Int), .slice (some ⟨g, 0, none⟩) len cap, .int .i64 (n0 : Int), .int .i64 (n1 : Int), .int .i64 (n2 : Int)] 193 (0, 0)))
    (hx : w.cell? ⟨g, a - f, none⟩ = some (.int .i64 1)) (hfx : w.frozen? ⟨g, a - f, none⟩ = false) :
    Calls Tryz.prog 131 #[.pointer (some ⟨m, 0, none⟩), .int .i64 (a : Int), .int .i64 0] w fun e w' =>
      e = unit0 ∧ ∃ n, w' = (((w.drewN n).setCell ⟨m, 3, none⟩ (.int .i64 ((n1 : Int) - 1))).setCell ⟨g, a - f, none⟩ (.int .i64 0)).setCell ⟨m, 2, none⟩ (.int .i64 ((n0 : Int) + 1)) := by
  have h01 : (0 : Int) ≤ (a : Int) - (f : Int) := by omega
  have h02 : (a : Int) - (f : Int) < (len : Int) := by omega
  have eN : ((a : Int) - (f : Int)).toNat = a - f := by omega
  have wN : IntKind.i64.wrap ((a : Int) - (f : Int)) = (a : Int) - (f : Int) := IntWalk.i64_in _ (by omega)
  have w1 : IntKind.i64.wrap ((n1 : Int) - 1) = (n1 : Int) - 1 := IntWalk.i64_in _ (by omega)
  have w2 : IntKind.i64.wrap ((n0 : Int) + 1) = ((n0 : Int) + 1) := IntWalk.i64_in _ (by omega)
  have hgm : g ≠ m := Ne.symm hne
  have hc := cell_blk hm
  have hfm := frozen_blk hm
  go_enter Tryz.func131, Tryz.ntmps131
  go_wp2_with fail
  refine wp_region_mix 21 (fun w' => (∀ i, w'.cell? ⟨m, i, none⟩ = #[.int .i64 (f : Int), .slice (some ⟨g, 0, none⟩) len cap, .int .i64 (n0 : Int), .int .i64 (n1 : Int), .int .i64 (n2 : Int)][i]?) ∧ w'.cell? ⟨g, a - f, none⟩ = some (.int .i64 1)) [true, true, true, true, true, true, true, true, true, true, true, true, true, true, true, true, true, true, true, true, true] (by kernel_rfl) (by kernel_rfl) ?_ (by intro c a d v w h; cases d <;> exact h) ?_
  · exact ⟨hc, hx⟩
  simp only [List.take_succ_cons, List.take_zero, List.drop_succ_cons, List.drop_zero]
  repeat ((with_reducible refine wpMix_read ?_ (fun K hK => ?_)); (focus rfl); apply Exists.intro; refine ⟨fun w' hS => ?_, ?_⟩; (focus (try dsimp only at hS; go_simp; try rfl)); go_simp; refine hK _ ?_; clear hK K)
  refine wpMix_nil ?_
  go_wp2_with fail
  have hm1 := blk_set (i := 3) (v := .int .i64 ((n1 : Int) - 1)) hm
  have hx1 : (w.setCell ⟨m, 3, none⟩ (.int .i64 ((n1 : Int) - 1))).cell? ⟨g, a - f, none⟩ = some (.int .i64 1) := (World.cell?_setCell_other _ _ _ _ (by intro e; injection e with e1; exact hne e1)).trans hx
  simp only [List.setIfInBounds_toArray, List.set_cons_zero, List.set_cons_succ] at hm1
  have hc1 := cell_blk hm1
  clear hc
  refine wp_region_mix 12 (fun w' => (∀ i, w'.cell? ⟨m, i, none⟩ = #[.int .i64 (f : Int), .slice (some ⟨g, 0, none⟩) len cap, .int .i64 (n0 : Int), .int .i64 ((n1 : Int) - 1), .int .i64 (n2 : Int)][i]?) ∧ w'.cell? ⟨g, a - f, none⟩ = some (.int .i64 1)) [true, true, true, true, true, true, true, true, true, true, true, true] (by kernel_rfl) (by kernel_rfl) ?_ (by intro c a d v w h; cases d <;> exact h) ?_
  · exact ⟨hc1, hx1⟩
  simp only [List.take_succ_cons, List.take_zero, List.drop_succ_cons, List.drop_zero]
  repeat ((with_reducible refine wpMix_read ?_ (fun K hK => ?_)); (focus rfl); apply Exists.intro; refine ⟨fun w' hS => ?_, ?_⟩; (focus (try dsimp only at hS; go_simp; try rfl)); go_simp; refine hK _ ?_; clear hK K)
  refine wpMix_nil ?_
  go_wp2_with fail
  have hm2 := blk_far (p := ⟨g, a - f, none⟩) (v := .int .i64 0) hm1 hne
  have hx2 : ((w.setCell ⟨m, 3, none⟩ (.int .i64 ((n1 : Int) - 1))).setCell ⟨g, a - f, none⟩ (.int .i64 0)).cell? ⟨g, a - f, none⟩ = some (.int .i64 0) := World.cell?_setCell_same _ _ _ hx1
  have hc2 := cell_blk hm2
  clear hc1 hx1
  refine wp_region_mix 10 (fun w' => (∀ i, w'.cell? ⟨m, i, none⟩ = #[.int .i64 (f : Int), .slice (some ⟨g, 0, none⟩) len cap, .int .i64 (n0 : Int), .int .i64 ((n1 : Int) - 1), .int .i64 (n2 : Int)][i]?) ∧ w'.cell? ⟨g, a - f, none⟩ = some (.int .i64 0)) [true, true, true, true, true, true, true, true, true, true] (by kernel_rfl) (by kernel_rfl) ?_ (by intro c a d v w h; cases d <;> exact h) ?_
  · exact ⟨hc2, hx2⟩
  simp only [List.take_succ_cons, List.take_zero, List.drop_succ_cons, List.drop_zero]
  repeat ((with_reducible refine wpMix_read ?_ (fun K hK => ?_)); (focus rfl); apply Exists.intro; refine ⟨fun w' hS => ?_, ?_⟩; (focus (try dsimp only at hS; go_simp; try rfl)); go_simp; refine hK _ ?_; clear hK K)
  refine wpMix_nil ?_
  go_wp2_with fail
  go_end0
  exact ⟨rfl, 3, rfl⟩

theorem gr_set_11 {w : World} {m g len cap a f n0 n1 n2 : Nat} (hf : f ≤ a) (hl : a - f < len) (h1 : len ≤ 4096) (_h2 : f ≤ 4096) (hne : m ≠ g) (_c0 : n0 ≤ 4096) (c1 : n1 ≤ 4096) (_c2 : n2 ≤ 4096) (hp : 0 < n1)
    (hm : w.heap[m]? = some (.cells #[.int .i64 (f : Int), .slice (some ⟨g, 0, none⟩) len cap, .int .i64 (n0 : Int), .int .i64 (n1 : Int), .int .i64 (n2 : Int)] 193 (0, 0)))
    (hx : w.cell? ⟨g, a - f, none⟩ = some (.int .i64 1)) (hfx : w.frozen? ⟨g, a - f, none⟩ = false) :
    Calls Tryz.prog 131 #[.pointer (some ⟨m, 0, none⟩), .int .i64 (a : Int), .int .i64 1] w fun e w' =>
      e = unit0 ∧ ∃ n, w' = (((w.drewN n).setCell ⟨m, 3, none⟩ (.int .i64 ((n1 : Int) - 1))).setCell ⟨g, a - f, none⟩ (.int .i64 1)).setCell ⟨m, 3, none⟩ (.int .i64 (n1 : Int)) := by
  have h01 : (0 : Int) ≤ (a : Int) - (f : Int) := by omega
  have h02 : (a : Int) - (f : Int) < (len : Int) := by omega
  have eN : ((a : Int) - (f : Int)).toNat = a - f := by omega
  have wN : IntKind.i64.wrap ((a : Int) - (f : Int)) = (a : Int) - (f : Int) := IntWalk.i64_in _ (by omega)
  have w1 : IntKind.i64.wrap ((n1 : Int) - 1) = (n1 : Int) - 1 := IntWalk.i64_in _ (by omega)
  have w2 : IntKind.i64.wrap (n1 : Int) = (n1 : Int) := IntWalk.i64_in _ (by omega)
  have hgm : g ≠ m := Ne.symm hne
  have hc := cell_blk hm
  have hfm := frozen_blk hm
  go_enter Tryz.func131, Tryz.ntmps131
  go_wp2_with fail
  refine wp_region_mix 21 (fun w' => (∀ i, w'.cell? ⟨m, i, none⟩ = #[.int .i64 (f : Int), .slice (some ⟨g, 0, none⟩) len cap, .int .i64 (n0 : Int), .int .i64 (n1 : Int), .int .i64 (n2 : Int)][i]?) ∧ w'.cell? ⟨g, a - f, none⟩ = some (.int .i64 1)) [true, true, true, true, true, true, true, true, true, true, true, true, true, true, true, true, true, true, true, true, true] (by kernel_rfl) (by kernel_rfl) ?_ (by intro c a d v w h; cases d <;> exact h) ?_
  · exact ⟨hc, hx⟩
  simp only [List.take_succ_cons, List.take_zero, List.drop_succ_cons, List.drop_zero]
  repeat ((with_reducible refine wpMix_read ?_ (fun K hK => ?_)); (focus rfl); apply Exists.intro; refine ⟨fun w' hS => ?_, ?_⟩; (focus (try dsimp only at hS; go_simp; try rfl)); go_simp; refine hK _ ?_; clear hK K)
  refine wpMix_nil ?_
  go_wp2_with fail
  have hm1 := blk_set (i := 3) (v := .int .i64 ((n1 : Int) - 1)) hm
  have hx1 : (w.setCell ⟨m, 3, none⟩ (.int .i64 ((n1 : Int) - 1))).cell? ⟨g, a - f, none⟩ = some (.int .i64 1) := (World.cell?_setCell_other _ _ _ _ (by intro e; injection e with e1; exact hne e1)).trans hx
  simp only [List.setIfInBounds_toArray, List.set_cons_zero, List.set_cons_succ] at hm1
  have hc1 := cell_blk hm1
  clear hc
  refine wp_region_mix 12 (fun w' => (∀ i, w'.cell? ⟨m, i, none⟩ = #[.int .i64 (f : Int), .slice (some ⟨g, 0, none⟩) len cap, .int .i64 (n0 : Int), .int .i64 ((n1 : Int) - 1), .int .i64 (n2 : Int)][i]?) ∧ w'.cell? ⟨g, a - f, none⟩ = some (.int .i64 1)) [true, true, true, true, true, true, true, true, true, true, true, true] (by kernel_rfl) (by kernel_rfl) ?_ (by intro c a d v w h; cases d <;> exact h) ?_
  · exact ⟨hc1, hx1⟩
  simp only [List.take_succ_cons, List.take_zero, List.drop_succ_cons, List.drop_zero]
  repeat ((with_reducible refine wpMix_read ?_ (fun K hK => ?_)); (focus rfl); apply Exists.intro; refine ⟨fun w' hS => ?_, ?_⟩; (focus (try dsimp only at hS; go_simp; try rfl)); go_simp; refine hK _ ?_; clear hK K)
  refine wpMix_nil ?_
  go_wp2_with fail
  have hm2 := blk_far (p := ⟨g, a - f, none⟩) (v := .int .i64 1) hm1 hne
  have hx2 : ((w.setCell ⟨m, 3, none⟩ (.int .i64 ((n1 : Int) - 1))).setCell ⟨g, a - f, none⟩ (.int .i64 1)).cell? ⟨g, a - f, none⟩ = some (.int .i64 1) := World.cell?_setCell_same _ _ _ hx1
  have hc2 := cell_blk hm2
  clear hc1 hx1
  refine wp_region_mix 10 (fun w' => (∀ i, w'.cell? ⟨m, i, none⟩ = #[.int .i64 (f : Int), .slice (some ⟨g, 0, none⟩) len cap, .int .i64 (n0 : Int), .int .i64 ((n1 : Int) - 1), .int .i64 (n2 : Int)][i]?) ∧ w'.cell? ⟨g, a - f, none⟩ = some (.int .i64 1)) [true, true, true, true, true, true, true, true, true, true] (by kernel_rfl) (by kernel_rfl) ?_ (by intro c a d v w h; cases d <;> exact h) ?_
  · exact ⟨hc2, hx2⟩
  simp only [List.take_succ_cons, List.take_zero, List.drop_succ_cons, List.drop_zero]
  repeat ((with_reducible refine wpMix_read ?_ (fun K hK => ?_)); (focus rfl); apply Exists.intro; refine ⟨fun w' hS => ?_, ?_⟩; (focus (try dsimp only at hS; go_simp; try rfl)); go_simp; refine hK _ ?_; clear hK K)
  refine wpMix_nil ?_
  go_wp2_with fail
  go_end0
  exact ⟨rfl, 3, rfl⟩

theorem gr_set_12 {w : World} {m g len cap a f n0 n1 n2 : Nat} (hf : f ≤ a) (hl : a - f < len) (h1 : len ≤ 4096) (_h2 : f ≤ 4096) (hne : m ≠ g) (_c0 : n0 ≤ 4096) (c1 : n1 ≤ 4096) (c2 : n2 ≤ 4096) (hp : 0 < n1)
    (hm : w.heap[m]? = some (.cells #[.int .i64 (f : Int), .slice (some ⟨g, 0, none⟩) len cap, .int .i64 (n0 : Int), .int .i64 (n1 : Int), .int .i64 (n2 : Int)] 193 (0, 0)))
    (hx : w.cell? ⟨g, a - f, none⟩ = some (.int .i64 1)) (hfx : w.frozen? ⟨g, a - f, none⟩ = false) :
    Calls Tryz.prog 131 #[.pointer (some ⟨m, 0, none⟩), .int .i64 (a : Int), .int .i64 2] w fun e w' =>
      e = unit0 ∧ ∃ n, w' = (((w.drewN n).setCell ⟨m, 3, none⟩ (.int .i64 ((n1 : Int) - 1))).setCell ⟨g, a - f, none⟩ (.int .i64 2)).setCell ⟨m, 4, none⟩ (.int .i64 ((n2 : Int) + 1)) := by
  have h01 : (0 : Int) ≤ (a : Int) - (f : Int) := by omega
  have h02 : (a : Int) - (f : Int) < (len : Int) := by omega
  have eN : ((a : Int) - (f : Int)).toNat = a - f := by omega
  have wN : IntKind.i64.wrap ((a : Int) - (f : Int)) = (a : Int) - (f : Int) := IntWalk.i64_in _ (by omega)
  have w1 : IntKind.i64.wrap ((n1 : Int) - 1) = (n1 : Int) - 1 := IntWalk.i64_in _ (by omega)
  have w2 : IntKind.i64.wrap ((n2 : Int) + 1) = ((n2 : Int) + 1) := IntWalk.i64_in _ (by omega)
  have hgm : g ≠ m := Ne.symm hne
  have hc := cell_blk hm
  have hfm := frozen_blk hm
  go_enter Tryz.func131, Tryz.ntmps131
  go_wp2_with fail
  refine wp_region_mix 21 (fun w' => (∀ i, w'.cell? ⟨m, i, none⟩ = #[.int .i64 (f : Int), .slice (some ⟨g, 0, none⟩) len cap, .int .i64 (n0 : Int), .int .i64 (n1 : Int), .int .i64 (n2 : Int)][i]?) ∧ w'.cell? ⟨g, a - f, none⟩ = some (.int .i64 1)) [true, true, true, true, true, true, true, true, true, true, true, true, true, true, true, true, true, true, true, true, true] (by kernel_rfl) (by kernel_rfl) ?_ (by intro c a d v w h; cases d <;> exact h) ?_
  · exact ⟨hc, hx⟩
  simp only [List.take_succ_cons, List.take_zero, List.drop_succ_cons, List.drop_zero]
  repeat ((with_reducible refine wpMix_read ?_ (fun K hK => ?_)); (focus rfl); apply Exists.intro; refine ⟨fun w' hS => ?_, ?_⟩; (focus (try dsimp only at hS; go_simp; try rfl)); go_simp; refine hK _ ?_; clear hK K)
  refine wpMix_nil ?_
  go_wp2_with fail
  have hm1 := blk_set (i := 3) (v := .int .i64 ((n1 : Int) - 1)) hm
  have hx1 : (w.setCell ⟨m, 3, none⟩ (.int .i64 ((n1 : Int) - 1))).cell? ⟨g, a - f, none⟩ = some (.int .i64 1) := (World.cell?_setCell_other _ _ _ _ (by intro e; injection e with e1; exact hne e1)).trans hx
  simp only [List.setIfInBounds_toArray, List.set_cons_zero, List.set_cons_succ] at hm1
  have hc1 := cell_blk hm1
  clear hc
  refine wp_region_mix 12 (fun w' => (∀ i, w'.cell? ⟨m, i, none⟩ = #[.int .i64 (f : Int), .slice (some ⟨g, 0, none⟩) len cap, .int .i64 (n0 : Int), .int .i64 ((n1 : Int) - 1), .int .i64 (n2 : Int)][i]?) ∧ w'.cell? ⟨g, a - f, none⟩ = some (.int .i64 1)) [true, true, true, true, true, true, true, true, true, true, true, true] (by kernel_rfl) (by kernel_rfl) ?_ (by intro c a d v w h; cases d <;> exact h) ?_
  · exact ⟨hc1, hx1⟩
  simp only [List.take_succ_cons, List.take_zero, List.drop_succ_cons, List.drop_zero]
  repeat ((with_reducible refine wpMix_read ?_ (fun K hK => ?_)); (focus rfl); apply Exists.intro; refine ⟨fun w' hS => ?_, ?_⟩; (focus (try dsimp only at hS; go_simp; try rfl)); go_simp; refine hK _ ?_; clear hK K)
  refine wpMix_nil ?_
  go_wp2_with fail
  have hm2 := blk_far (p := ⟨g, a - f, none⟩) (v := .int .i64 2) hm1 hne
  have hx2 : ((w.setCell ⟨m, 3, none⟩ (.int .i64 ((n1 : Int) - 1))).setCell ⟨g, a - f, none⟩ (.int .i64 2)).cell? ⟨g, a - f, none⟩ = some (.int .i64 2) := World.cell?_setCell_same _ _ _ hx1
  have hc2 := cell_blk hm2
  clear hc1 hx1
  refine wp_region_mix 10 (fun w' => (∀ i, w'.cell? ⟨m, i, none⟩ = #[.int .i64 (f : Int), .slice (some ⟨g, 0, none⟩) len cap, .int .i64 (n0 : Int), .int .i64 ((n1 : Int) - 1), .int .i64 (n2 : Int)][i]?) ∧ w'.cell? ⟨g, a - f, none⟩ = some (.int .i64 2)) [true, true, true, true, true, true, true, true, true, true] (by kernel_rfl) (by kernel_rfl) ?_ (by intro c a d v w h; cases d <;> exact h) ?_
  · exact ⟨hc2, hx2⟩
  simp only [List.take_succ_cons, List.take_zero, List.drop_succ_cons, List.drop_zero]
  repeat ((with_reducible refine wpMix_read ?_ (fun K hK => ?_)); (focus rfl); apply Exists.intro; refine ⟨fun w' hS => ?_, ?_⟩; (focus (try dsimp only at hS; go_simp; try rfl)); go_simp; refine hK _ ?_; clear hK K)
  refine wpMix_nil ?_
  go_wp2_with fail
  go_end0
  exact ⟨rfl, 3, rfl⟩

theorem gr_set_20 {w : World} {m g len cap a f n0 n1 n2 : Nat} (hf : f ≤ a) (hl : a - f < len) (h1 : len ≤ 4096) (_h2 : f ≤ 4096) (hne : m ≠ g) (c0 : n0 ≤ 4096) (_c1 : n1 ≤ 4096) (c2 : n2 ≤ 4096) (hp : 0 < n2)
    (hm : w.heap[m]? = some (.cells #[.int .i64 (f : Int), .slice (some ⟨g, 0, none⟩) len cap, .int .i64 (n0 : Int), .int .i64 (n1 : Int), .int .i64 (n2 : Int)] 193 (0, 0)))
    (hx : w.cell? ⟨g, a - f, none⟩ = some (.int .i64 2)) (hfx : w.frozen? ⟨g, a - f, none⟩ = false) :
    Calls Tryz.prog 131 #[.pointer (some ⟨m, 0, none⟩), .int .i64 (a : Int), .int .i64 0] w fun e w' =>
      e = unit0 ∧ ∃ n, w' = (((w.drewN n).setCell ⟨m, 4, none⟩ (.int .i64 ((n2 : Int) - 1))).setCell ⟨g, a - f, none⟩ (.int .i64 0)).setCell ⟨m, 2, none⟩ (.int .i64 ((n0 : Int) + 1)) := by
  have h01 : (0 : Int) ≤ (a : Int) - (f : Int) := by omega
  have h02 : (a : Int) - (f : Int) < (len : Int) := by omega
  have eN : ((a : Int) - (f : Int)).toNat = a - f := by omega
  have wN : IntKind.i64.wrap ((a : Int) - (f : Int)) = (a : Int) - (f : Int) := IntWalk.i64_in _ (by omega)
  have w1 : IntKind.i64.wrap ((n2 : Int) - 1) = (n2 : Int) - 1 := IntWalk.i64_in _ (by omega)
  have w2 : IntKind.i64.wrap ((n0 : Int) + 1) = ((n0 : Int) + 1) := IntWalk.i64_in _ (by omega)
  have hgm : g ≠ m := Ne.symm hne
  have hc := cell_blk hm
  have hfm := frozen_blk hm
  go_enter Tryz.func131, Tryz.ntmps131
  go_wp2_with fail
  refine wp_region_mix 21 (fun w' => (∀ i, w'.cell? ⟨m, i, none⟩ = #[.int .i64 (f : Int), .slice (some ⟨g, 0, none⟩) len cap, .int .i64 (n0 : Int), .int .i64 (n1 : Int), .int .i64 (n2 : Int)][i]?) ∧ w'.cell? ⟨g, a - f, none⟩ = some (.int .i64 2)) [true, true, true, true, true, true, true, true, true, true, true, true, true, true, true, true, true, true, true, true, true] (by kernel_rfl) (by kernel_rfl) ?_ (by intro c a d v w h; cases d <;> exact h) ?_
  · exact ⟨hc, hx⟩
  simp only [List.take_succ_cons, List.take_zero, List.drop_succ_cons, List.drop_zero]
  repeat ((with_reducible refine wpMix_read ?_ (fun K hK => ?_)); (focus rfl); apply Exists.intro; refine ⟨fun w' hS => ?_, ?_⟩; (focus (try dsimp only at hS; go_simp; try rfl)); go_simp; refine hK _ ?_; clear hK K)
  refine wpMix_nil ?_
  go_wp2_with fail
  have hm1 := blk_set (i := 4) (v := .int .i64 ((n2 : Int) - 1)) hm
  have hx1 : (w.setCell ⟨m, 4, none⟩ (.int .i64 ((n2 : Int) - 1))).cell? ⟨g, a - f, none⟩ = some (.int .i64 2) := (World.cell?_setCell_other _ _ _ _ (by intro e; injection e with e1; exact hne e1)).trans hx
  simp only [List.setIfInBounds_toArray, List.set_cons_zero, List.set_cons_succ] at hm1
  have hc1 := cell_blk hm1
  clear hc
  refine wp_region_mix 12 (fun w' => (∀ i, w'.cell? ⟨m, i, none⟩ = #[.int .i64 (f : Int), .slice (some ⟨g, 0, none⟩) len cap, .int .i64 (n0 : Int), .int .i64 (n1 : Int), .int .i64 ((n2 : Int) - 1)][i]?) ∧ w'.cell? ⟨g, a - f, none⟩ = some (.int .i64 2)) [true, true, true, true, true, true, true, true, true, true, true, true] (by kernel_rfl) (by kernel_rfl) ?_ (by intro c a d v w h; cases d <;> exact h) ?_
  · exact ⟨hc1, hx1⟩
  simp only [List.take_succ_cons, List.take_zero, List.drop_succ_cons, List.drop_zero]
  repeat ((with_reducible refine wpMix_read ?_ (fun K hK => ?_)); (focus rfl); apply Exists.intro; refine ⟨fun w' hS => ?_, ?_⟩; (focus (try dsimp only at hS; go_simp; try rfl)); go_simp; refine hK _ ?_; clear hK K)
  refine wpMix_nil ?_
  go_wp2_with fail
  have hm2 := blk_far (p := ⟨g, a - f, none⟩) (v := .int .i64 0) hm1 hne
  have hx2 : ((w.setCell ⟨m, 4, none⟩ (.int .i64 ((n2 : Int) - 1))).setCell ⟨g, a - f, none⟩ (.int .i64 0)).cell? ⟨g, a - f, none⟩ = some (.int .i64 0) := World.cell?_setCell_same _ _ _ hx1
  have hc2 := cell_blk hm2
  clear hc1 hx1
  refine wp_region_mix 10 (fun w' => (∀ i, w'.cell? ⟨m, i, none⟩ = #[.int .i64 (f : Int), .slice (some ⟨g, 0, none⟩) len cap, .int .i64 (n0 : Int), .int .i64 (n1 : Int), .int .i64 ((n2 : Int) - 1)][i]?) ∧ w'.cell? ⟨g, a - f, none⟩ = some (.int .i64 0)) [true, true, true, true, true, true, true, true, true, true] (by kernel_rfl) (by kernel_rfl) ?_ (by intro c a d v w h; cases d <;> exact h) ?_
  · exact ⟨hc2, hx2⟩
  simp only [List.take_succ_cons, List.take_zero, List.drop_succ_cons, List.drop_zero]
  repeat ((with_reducible refine wpMix_read ?_ (fun K hK => ?_)); (focus rfl); apply Exists.intro; refine ⟨fun w' hS => ?_, ?_⟩; (focus (try dsimp only at hS; go_simp; try rfl)); go_simp; refine hK _ ?_; clear hK K)
  refine wpMix_nil ?_
  go_wp2_with fail
  go_end0
  exact ⟨rfl, 3, rfl⟩

theorem gr_set_21 {w : World} {m g len cap a f n0 n1 n2 : Nat} (hf : f ≤ a) (hl : a - f < len) (h1 : len ≤ 4096) (_h2 : f ≤ 4096) (hne : m ≠ g) (_c0 : n0 ≤ 4096) (c1 : n1 ≤ 4096) (c2 : n2 ≤ 4096) (hp : 0 < n2)
    (hm : w.heap[m]? = some (.cells #[.int .i64 (f : Int), .slice (some ⟨g, 0, none⟩) len cap, .int .i64 (n0 : Int), .int .i64 (n1 : Int), .int .i64 (n2 : Int)] 193 (0, 0)))
    (hx : w.cell? ⟨g, a - f, none⟩ = some (.int .i64 2)) (hfx : w.frozen? ⟨g, a - f, none⟩ = false) :
    Calls Tryz.prog 131 #[.pointer (some ⟨m, 0, none⟩), .int .i64 (a : Int), .int .i64 1] w fun e w' =>
      e = unit0 ∧ ∃ n, w' = (((w.drewN n).setCell ⟨m, 4, none⟩ (.int .i64 ((n2 : Int) - 1))).setCell ⟨g, a - f, none⟩ (.int .i64 1)).setCell ⟨m, 3, none⟩ (.int .i64 ((n1 : Int) + 1)) := by
  have h01 : (0 : Int) ≤ (a : Int) - (f : Int) := by omega
  have h02 : (a : Int) - (f : Int) < (len : Int) := by omega
  have eN : ((a : Int) - (f : Int)).toNat = a - f := by omega
  have wN : IntKind.i64.wrap ((a : Int) - (f : Int)) = (a : Int) - (f : Int) := IntWalk.i64_in _ (by omega)
  have w1 : IntKind.i64.wrap ((n2 : Int) - 1) = (n2 : Int) - 1 := IntWalk.i64_in _ (by omega)
  have w2 : IntKind.i64.wrap ((n1 : Int) + 1) = ((n1 : Int) + 1) := IntWalk.i64_in _ (by omega)
  have hgm : g ≠ m := Ne.symm hne
  have hc := cell_blk hm
  have hfm := frozen_blk hm
  go_enter Tryz.func131, Tryz.ntmps131
  go_wp2_with fail
  refine wp_region_mix 21 (fun w' => (∀ i, w'.cell? ⟨m, i, none⟩ = #[.int .i64 (f : Int), .slice (some ⟨g, 0, none⟩) len cap, .int .i64 (n0 : Int), .int .i64 (n1 : Int), .int .i64 (n2 : Int)][i]?) ∧ w'.cell? ⟨g, a - f, none⟩ = some (.int .i64 2)) [true, true, true, true, true, true, true, true, true, true, true, true, true, true, true, true, true, true, true, true, true] (by kernel_rfl) (by kernel_rfl) ?_ (by intro c a d v w h; cases d <;> exact h) ?_
  · exact ⟨hc, hx⟩
  simp only [List.take_succ_cons, List.take_zero, List.drop_succ_cons, List.drop_zero]
  repeat ((with_reducible refine wpMix_read ?_ (fun K hK => ?_)); (focus rfl); apply Exists.intro; refine ⟨fun w' hS => ?_, ?_⟩; (focus (try dsimp only at hS; go_simp; try rfl)); go_simp; refine hK _ ?_; clear hK K)
  refine wpMix_nil ?_
  go_wp2_with fail
  have hm1 := blk_set (i := 4) (v := .int .i64 ((n2 : Int) - 1)) hm
  have hx1 : (w.setCell ⟨m, 4, none⟩ (.int .i64 ((n2 : Int) - 1))).cell? ⟨g, a - f, none⟩ = some (.int .i64 2) := (World.cell?_setCell_other _ _ _ _ (by intro e; injection e with e1; exact hne e1)).trans hx
  simp only [List.setIfInBounds_toArray, List.set_cons_zero, List.set_cons_succ] at hm1
  have hc1 := cell_blk hm1
  clear hc
  refine wp_region_mix 12 (fun w' => (∀ i, w'.cell? ⟨m, i, none⟩ = #[.int .i64 (f : Int), .slice (some ⟨g, 0, none⟩) len cap, .int .i64 (n0 : Int), .int .i64 (n1 : Int), .int .i64 ((n2 : Int) - 1)][i]?) ∧ w'.cell? ⟨g, a - f, none⟩ = some (.int .i64 2)) [true, true, true, true, true, true, true, true, true, true, true, true] (by kernel_rfl) (by kernel_rfl) ?_ (by intro c a d v w h; cases d <;> exact h) ?_
  · exact ⟨hc1, hx1⟩
  simp only [List.take_succ_cons, List.take_zero, List.drop_succ_cons, List.drop_zero]
  repeat ((with_reducible refine wpMix_read ?_ (fun K hK => ?_)); (focus rfl); apply Exists.intro; refine ⟨fun w' hS => ?_, ?_⟩; (focus (try dsimp only at hS; go_simp; try rfl)); go_simp; refine hK _ ?_; clear hK K)
  refine wpMix_nil ?_
  go_wp2_with fail
  have hm2 := blk_far (p := ⟨g, a - f, none⟩) (v := .int .i64 1) hm1 hne
  have hx2 : ((w.setCell ⟨m, 4, none⟩ (.int .i64 ((n2 : Int) - 1))).setCell ⟨g, a - f, none⟩ (.int .i64 1)).cell? ⟨g, a - f, none⟩ = some (.int .i64 1) := World.cell?_setCell_same _ _ _ hx1
  have hc2 := cell_blk hm2
  clear hc1 hx1
  refine wp_region_mix 10 (fun w' => (∀ i, w'.cell? ⟨m, i, none⟩ = #[.int .i64 (f : Int), .slice (some ⟨g, 0, none⟩) len cap, .int .i64 (n0 : Int), .int .i64 (n1 : Int), .int .i64 ((n2 : Int) - 1)][i]?) ∧ w'.cell? ⟨g, a - f, none⟩ = some (.int .i64 1)) [true, true, true, true, true, true, true, true, true, true] (by kernel_rfl) (by kernel_rfl) ?_ (by intro c a d v w h; cases d <;> exact h) ?_
  · exact ⟨hc2, hx2⟩
  simp only [List.take_succ_cons, List.take_zero, List.drop_succ_cons, List.drop_zero]
  repeat ((with_reducible refine wpMix_read ?_ (fun K hK => ?_)); (focus rfl); apply Exists.intro; refine ⟨fun w' hS => ?_, ?_⟩; (focus (try dsimp only at hS; go_simp; try rfl)); go_simp; refine hK _ ?_; clear hK K)
  refine wpMix_nil ?_
  go_wp2_with fail
  go_end0
  exact ⟨rfl, 3, rfl⟩

theorem gr_set_22 {w : World} {m g len cap a f n0 n1 n2 : Nat} (hf : f ≤ a) (hl : a - f < len) (h1 : len ≤ 4096) (_h2 : f ≤ 4096) (hne : m ≠ g) (_c0 : n0 ≤ 4096) (_c1 : n1 ≤ 4096) (c2 : n2 ≤ 4096) (hp : 0 < n2)
    (hm : w.heap[m]? = some (.cells #[.int .i64 (f : Int), .slice (some ⟨g, 0, none⟩) len cap, .int .i64 (n0 : Int), .int .i64 (n1 : Int), .int .i64 (n2 : Int)] 193 (0, 0)))
    (hx : w.cell? ⟨g, a - f, none⟩ = some (.int .i64 2)) (hfx : w.frozen? ⟨g, a - f, none⟩ = false) :
    Calls Tryz.prog 131 #[.pointer (some ⟨m, 0, none⟩), .int .i64 (a : Int), .int .i64 2] w fun e w' =>
      e = unit0 ∧ ∃ n, w' = (((w.drewN n).setCell ⟨m, 4, none⟩ (.int .i64 ((n2 : Int) - 1))).setCell ⟨g, a - f, none⟩ (.int .i64 2)).setCell ⟨m, 4, none⟩ (.int .i64 (n2 : Int)) := by
  have h01 : (0 : Int) ≤ (a : Int) - (f : Int) := by omega
  have h02 : (a : Int) - (f : Int) < (len : Int) := by omega
  have eN : ((a : Int) - (f : Int)).toNat = a - f := by omega
  have wN : IntKind.i64.wrap ((a : Int) - (f : Int)) = (a : Int) - (f : Int) := IntWalk.i64_in _ (by omega)
  have w1 : IntKind.i64.wrap ((n2 : Int) - 1) = (n2 : Int) - 1 := IntWalk.i64_in _ (by omega)
  have w2 : IntKind.i64.wrap (n2 : Int) = (n2 : Int) := IntWalk.i64_in _ (by omega)
  have hgm : g ≠ m := Ne.symm hne
  have hc := cell_blk hm
  have hfm := frozen_blk hm
  go_enter Tryz.func131, Tryz.ntmps131
  go_wp2_with fail
  refine wp_region_mix 21 (fun w' => (∀ i, w'.cell? ⟨m, i, none⟩ = #[.int .i64 (f : Int), .slice (some ⟨g, 0, none⟩) len cap, .int .i64 (n0 : Int), .int .i64 (n1 : Int), .int .i64 (n2 : Int)][i]?) ∧ w'.cell? ⟨g, a - f, none⟩ = some (.int .i64 2)) [true, true, true, true, true, true, true, true, true, true, true, true, true, true, true, true, true, true, true, true, true] (by kernel_rfl) (by kernel_rfl) ?_ (by intro c a d v w h; cases d <;> exact h) ?_
  · exact ⟨hc, hx⟩
  simp only [List.take_succ_cons, List.take_zero, List.drop_succ_cons, List.drop_zero]
  repeat ((with_reducible refine wpMix_read ?_ (fun K hK => ?_)); (focus rfl); apply Exists.intro; refine ⟨fun w' hS => ?_, ?_⟩; (focus (try dsimp only at hS; go_simp; try rfl)); go_simp; refine hK _ ?_; clear hK K)
  refine wpMix_nil ?_
  go_wp2_with fail
  have hm1 := blk_set (i := 4) (v := .int .i64 ((n2 : Int) - 1)) hm
  have hx1 : (w.setCell ⟨m, 4, none⟩ (.int .i64 ((n2 : Int) - 1))).cell? ⟨g, a - f, none⟩ = some (.int .i64 2) := (World.cell?_setCell_other _ _ _ _ (by intro e; injection e with e1; exact hne e1)).trans hx
  simp only [List.setIfInBounds_toArray, List.set_cons_zero, List.set_cons_succ] at hm1
  have hc1 := cell_blk hm1
  clear hc
  refine wp_region_mix 12 (fun w' => (∀ i, w'.cell? ⟨m, i, none⟩ = #[.int .i64 (f : Int), .slice (some ⟨g, 0, none⟩) len cap, .int .i64 (n0 : Int), .int .i64 (n1 : Int), .int .i64 ((n2 : Int) - 1)][i]?) ∧ w'.cell? ⟨g, a - f, none⟩ = some (.int .i64 2)) [true, true, true, true, true, true, true, true, true, true, true, true] (by kernel_rfl) (by kernel_rfl) ?_ (by intro c a d v w h; cases d <;> exact h) ?_
  · exact ⟨hc1, hx1⟩
  simp only [List.take_succ_cons, List.take_zero, List.drop_succ_cons, List.drop_zero]
  repeat ((with_reducible refine wpMix_read ?_ (fun K hK => ?_)); (focus rfl); apply Exists.intro; refine ⟨fun w' hS => ?_, ?_⟩; (focus (try dsimp only at hS; go_simp; try rfl)); go_simp; refine hK _ ?_; clear hK K)
  refine wpMix_nil ?_
  go_wp2_with fail
  have hm2 := blk_far (p := ⟨g, a - f, none⟩) (v := .int .i64 2) hm1 hne
  have hx2 : ((w.setCell ⟨m, 4, none⟩ (.int .i64 ((n2 : Int) - 1))).setCell ⟨g, a - f, none⟩ (.int .i64 2)).cell? ⟨g, a - f, none⟩ = some (.int .i64 2) := World.cell?_setCell_same _ _ _ hx1
  have hc2 := cell_blk hm2
  clear hc1 hx1
  refine wp_region_mix 10 (fun w' => (∀ i, w'.cell? ⟨m, i, none⟩ = #[.int .i64 (f : Int), .slice (some ⟨g, 0, none⟩) len cap, .int .i64 (n0 : Int), .int .i64 (n1 : Int), .int .i64 ((n2 : Int) - 1)][i]?) ∧ w'.cell? ⟨g, a - f, none⟩ = some (.int .i64 2)) [true, true, true, true, true, true, true, true, true, true] (by kernel_rfl) (by kernel_rfl) ?_ (by intro c a d v w h; cases d <;> exact h) ?_
  · exact ⟨hc2, hx2⟩
  simp only [List.take_succ_cons, List.take_zero, List.drop_succ_cons, List.drop_zero]
  repeat ((with_reducible refine wpMix_read ?_ (fun K hK => ?_)); (focus rfl); apply Exists.intro; refine ⟨fun w' hS => ?_, ?_⟩; (focus (try dsimp only at hS; go_simp; try rfl)); go_simp; refine hK _ ?_; clear hK K)
  refine wpMix_nil ?_
  go_wp2_with fail
  go_end0
  exact ⟨rfl, 3, rfl⟩

end Go.Proofs.YtajojhfialbfkaaGreatDoor
