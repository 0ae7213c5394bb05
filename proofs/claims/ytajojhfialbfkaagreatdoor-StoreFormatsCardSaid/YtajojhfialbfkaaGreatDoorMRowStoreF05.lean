/- Layer 7: supers. -/
import Derived.Test.YtajojhfialbfkaaGreatDoorMRowStoreF04
namespace Go.Proofs.YtajojhfialbfkaaGreatDoor
open Go.RowKit
set_option maxRecDepth 100000

section
variable {P : Program} {ops : Array Oper} {Q : Exit → Act → World → Prop} {S : World → Prop} {Fin : Act → World → Prop}
theorem wpMix_yes {o : Oper} {l : List Oper} {r : List Bool} {a : Act} {w : World} (hw : Region.wanted o (yielded ops a.tmps) = true)
    (h : ∀ K : Act → Prop, (∀ a, wpMix P ops Q S Fin l r a w → K a) → Oper.pureIf P S o a K) : wpMix P ops Q S Fin (o :: l) (true :: r) a w :=
  wpMix_pure fun K hK => by rw [if_pos hw]; exact h K hK
theorem wpMix_no {o : Oper} {l : List Oper} {r : List Bool} {a : Act} {w : World} (hw : Region.wanted o (yielded ops a.tmps) = false)
    (h : ∀ K : Act → Prop, (∀ a, wpMix P ops Q S Fin l r a w → K a) → K (a.put o.dst undef)) : wpMix P ops Q S Fin (o :: l) (true :: r) a w :=
  wpMix_pure fun K hK => by rw [if_neg (by rw [hw]; decide)]; exact h K hK
end

/-- What an archive is. -/
structure SU where
  epoch : Nat
  journal : Int
  bits : Int
  head : Nat
  next : Nat

def SU.v (s : SU) : Value := .agg #[.int .u32 (s.epoch : Int), .int .i64 s.journal, .int .i64 s.bits, .int .i64 (s.head : Int), .int .u32 (s.next : Int)]

def suBad (s : SU) : Bool := decide (s.journal < 4) || decide (512 < s.journal) || decide (s.bits < 1) || decide (256 < s.bits) || decide (s.epoch = 0) || decide (s.next = 0)

/-- May it be, on so many sectors? -/
def suCheck (s : SU) (n : Int) : Int :=
  if suBad s = true then 4 else if 4096 < n then 3 else if n < 2 + s.journal + 32 then 8
  else if s.head ≠ 0 ∧ ((s.head : Int) < 2 + s.journal ∨ n ≤ (s.head : Int)) then 6 else 0

def i64ok (n : Int) : Prop := -9223372036854775808 ≤ n ∧ n ≤ 9223372036854775807

theorem super_heap (s : SU) (hj : 0 ≤ s.journal ∧ s.journal ≤ 512) (w : World) :
    Calls Tryz.prog 110 #[s.v] w fun e w' => e = .returned (.int .i64 (2 + s.journal)) ∧ Below w.heap.size w w' := by
  obtain ⟨E, J, B, H, N⟩ := s
  simp only [SU.v]
  have hw : IntKind.i64.wrap (2 + J) = 2 + J := IntWalk.i64_in _ (by simp only at hj; omega)
  clear hj
  go_enter Tryz.func110, Tryz.ntmps110
  go_wp2_with fail
  go_ret
  exact ⟨rfl, (Below.refl _ w).alloc (Nat.le_refl _) _⟩

theorem super_check_bad (s : SU) (n : Nat) (hn : n ≤ 4096) (hbad : suBad s = true) (w : World) :
    Calls Tryz.prog 109 #[s.v, .int .i64 (n : Int)] w fun e w' => e = .returned (.int .i64 4) ∧ Below w.heap.size w w' := by
  obtain ⟨E, J, B, H, N⟩ := s
  simp only [SU.v]
  have HB := Lib.hid hbad
  clear hbad
  go_enter Tryz.func109, Tryz.ntmps109
  go_wp2_with fail
  all_goals first
    | (go_ret
       exact ⟨rfl, (Below.refl _ w).alloc (Nat.le_refl _) _⟩)
    | skip
  rename_i hx1 hx2 hx3 hx4 hx5 hx6 hx7 _ _ _ _
  have hN0 : ¬ N = 0 := by
    have := hx6.2
    simp only [beq_eq_false_iff_ne, ne_eq] at this
    omega
  have := HB.out
  simp only [suBad, Bool.or_eq_true, decide_eq_true_eq] at this
  omega

set_option maxHeartbeats 1000000 in
theorem super_check_ok (s : SU) (n : Nat) (hn : n ≤ 4096) (hok : suBad s = false) (w : World) :
    Calls Tryz.prog 109 #[s.v, .int .i64 (n : Int)] w fun e w' => e = .returned (.int .i64 (suCheck s n)) ∧ Below w.heap.size w w' := by
  obtain ⟨E, J, B, H, N⟩ := s
  have hheap := fun hj W => super_heap ⟨E, J, B, H, N⟩ hj W
  simp only [SU.v] at hheap ⊢
  have hk := hok
  simp only [suBad, Bool.or_eq_false_iff, decide_eq_false_iff_not] at hok
  have h1 : decide (J < 4) = false := by simp; omega
  have h2 : decide (512 < J) = false := by simp; omega
  have h3 : decide (B < 1) = false := by simp; omega
  have h4 : decide (256 < B) = false := by simp; omega
  have h5 : ((E : Int) == 0) = false := by simp; omega
  have h6 : ((N : Int) == 0) = false := by simp; omega
  have h7 : decide ((4096 : Int) < (n : Int)) = false := by simp; omega
  have hj : 4 ≤ J ∧ J ≤ 512 := by omega
  have w32 : IntKind.i64.wrap (2 + J + 32) = 2 + J + 32 := IntWalk.i64_in _ (by omega)
  have HH := Lib.hid (hheap (by omega))
  have HK := Lib.hid hk
  have HJ := Lib.hid hj
  have HN := Lib.hid hn
  clear hheap hok hk hj hn
  go_enter Tryz.func109, Tryz.ntmps109
  go_wp2_with fail
  have hb0 := blk_new (w := w) (o := Obj.cells #[.int .u32 (E : Int), .int .i64 J, .int .i64 B, .int .i64 (H : Int), .int .u32 (N : Int)] 69) rfl
  have hbel : Below w.heap.size w (w.alloc (Obj.cells #[.int .u32 (E : Int), .int .i64 J, .int .i64 B, .int .i64 (H : Int), .int .u32 (N : Int)] 69)) := (Below.refl _ w).alloc (Nat.le_refl _) _
  have hsz : w.heap.size < (w.alloc (Obj.cells #[.int .u32 (E : Int), .int .i64 J, .int .i64 B, .int .i64 (H : Int), .int .u32 (N : Int)] 69)).heap.size := by simp
  generalize w.alloc (Obj.cells #[.int .u32 (E : Int), .int .i64 J, .int .i64 B, .int .i64 (H : Int), .int .u32 (N : Int)] 69) = w1 at *
  refine (HH.out w1).mono ?_
  rintro e w2 ⟨rfl, hb2⟩
  have HB := Lib.hid (blk_below hb0 hb2 hsz)
  have HW := Lib.hid (hbel.trans (hb2.mono (by omega)))
  have HZ := Lib.hid (Nat.le_trans (Nat.succ_le_of_lt hsz) hb2.size)
  clear hb0 hbel hb2 hsz h1 h2 h3 h4 h5 h6 h7
  have hc := cell_blk HB.out
  rcases Int.lt_or_le (n : Int) (2 + J + 32) with hlt | hge
  · have hd : decide ((n : Int) < 2 + J + 32) = true := by simpa using hlt
    go_wp2_with fail
    go_ret
    refine ⟨?_, HW.out⟩
    have : suCheck ⟨E, J, B, H, N⟩ n = 8 := by
      have := HN.out
      unfold suCheck
      rw [HK.out, if_neg (by decide), if_neg (by omega), if_pos hlt]
    rw [this]; rfl
  · have hd : decide ((n : Int) < 2 + J + 32) = false := by simpa using hge
    go_wp2_with fail
    rcases Nat.eq_zero_or_pos H with h0 | hpos
    · have hr : suCheck ⟨E, J, B, H, N⟩ n = 0 := by
        have := HN.out
        unfold suCheck
        rw [HK.out, if_neg (by decide), if_neg (by omega), if_neg (show ¬ (n : Int) < 2 + J + 32 by omega), if_neg (fun h => h.1 h0)]
      have HR := Lib.hid hr
      subst h0
      clear hr hd hge w32
      refine wp_region_perm 16 (fun w' => ∀ i, w'.cell? ⟨w.heap.size, i, none⟩ = #[.int .u32 (E : Int), .int .i64 J, .int .i64 B, .int .i64 ((0 : Nat) : Int), .int .u32 (N : Int)][i]?) [(0, true), (1, true), (2, true), (3, true), (4, true), (5, true), (6, true), (7, false), (8, true), (9, true), (10, true), (11, true), (12, true), (13, true), (14, true), (15, true)] (by kernel_rfl) (by kernel_rfl) ?_ (by intro c a d v w h; cases d <;> exact h) ?_
      · exact hc
      simp only [pickOps, List.getElem?_cons_succ, List.getElem?_cons_zero, List.map_cons, List.map_nil, List.drop_succ_cons, List.drop_zero]
      repeat (first | ((with_reducible refine wpMix_read ?_ (fun K hK => ?_)); (focus rfl); apply Exists.intro; refine ⟨fun w' hS => ?_, ?_⟩; (focus (try dsimp only at hS; go_simp; try rfl)); go_simp; refine hK _ ?_; clear hK K) | ((with_reducible refine wpMix_yes ?_ (fun K hK => ?_)); (focus (first | (go_simp; done) | (go_simp; simp; done) | (go_simp; intro h; cases h; done))); apply Exists.intro; refine ⟨fun w' hS => ?_, ?_⟩; (focus (try dsimp only at hS; go_simp; try rfl)); go_simp; refine hK _ ?_; clear hK K) | ((with_reducible refine wpMix_no ?_ (fun K hK => ?_)); (focus (first | (go_simp; done) | (go_simp; simp; done) | (go_simp; intro h; cases h; done))); go_simp; refine hK _ ?_; clear hK K) | ((with_reducible refine wpMix_do (fun K hK => ?_)); go_simp; refine hK _ _ (by first | assumption | exact hc) ?_; clear hK K))
      refine wpMix_nil ?_
      go_wp2_with fail
      go_ret
      exact ⟨by rw [HR.out]; rfl, HW.out.drew⟩
    · have hne : (((H : Nat) : Int) != 0) = true := by simp; omega
      have hr : suCheck ⟨E, J, B, H, N⟩ n = if (H : Int) < 2 + J ∨ (n : Int) ≤ (H : Int) then 6 else 0 := by
        have := HN.out
        unfold suCheck
        rw [HK.out, if_neg (by decide), if_neg (by omega), if_neg (show ¬ (n : Int) < 2 + J + 32 by omega)]
        have : H ≠ 0 := by omega
        simp [this]
      have HR := Lib.hid hr
      clear hr hd hge w32 hpos
      refine wp_region_perm 16 (fun w' => ∀ i, w'.cell? ⟨w.heap.size, i, none⟩ = #[.int .u32 (E : Int), .int .i64 J, .int .i64 B, .int .i64 (H : Int), .int .u32 (N : Int)][i]?) [(0, true), (1, true), (2, true), (3, true), (4, true), (5, true), (6, true), (7, false), (8, true), (9, true), (10, true), (11, true), (12, true), (13, true), (14, true), (15, true)] (by kernel_rfl) (by kernel_rfl) ?_ (by intro c a d v w h; cases d <;> exact h) ?_
      · exact hc
      simp only [pickOps, List.getElem?_cons_succ, List.getElem?_cons_zero, List.map_cons, List.map_nil, List.drop_succ_cons, List.drop_zero]
      repeat (first | ((with_reducible refine wpMix_read ?_ (fun K hK => ?_)); (focus rfl); apply Exists.intro; refine ⟨fun w' hS => ?_, ?_⟩; (focus (try dsimp only at hS; go_simp; try rfl)); go_simp; refine hK _ ?_; clear hK K) | ((with_reducible refine wpMix_yes ?_ (fun K hK => ?_)); (focus (first | (go_simp; done) | (go_simp; simp; done) | (go_simp; intro h; cases h; done))); apply Exists.intro; refine ⟨fun w' hS => ?_, ?_⟩; (focus (try dsimp only at hS; go_simp; try rfl)); go_simp; refine hK _ ?_; clear hK K) | ((with_reducible refine wpMix_no ?_ (fun K hK => ?_)); (focus (first | (go_simp; done) | (go_simp; simp; done) | (go_simp; intro h; cases h; done))); go_simp; refine hK _ ?_; clear hK K) | ((with_reducible refine wpMix_do (fun K hK => ?_)); go_simp; refine hK _ _ (by first | assumption | exact hc) ?_; clear hK K))
      (with_reducible refine wpMix_do (fun K hK => ?_)); go_simp
      refine (HH.out w2.drew).mono ?_
      rintro e w3 ⟨rfl, hb3⟩
      have hz2 := HZ.out
      have hb3 : Below w2.heap.size w2 w3 := ((Below.refl w2.heap.size w2).drew).trans hb3
      have HW := Lib.hid (HW.out.trans (hb3.mono (by omega)))
      have hc := cell_blk (blk_below HB.out hb3 (by omega))
      refine hK _ _ hc ?_; clear hK K hb3
      rcases Int.lt_or_le (H : Int) (2 + J) with hlt | hge
      · have hd : decide ((H : Int) < 2 + J) = true := by simpa using hlt
        repeat (first | ((with_reducible refine wpMix_read ?_ (fun K hK => ?_)); (focus rfl); apply Exists.intro; refine ⟨fun w' hS => ?_, ?_⟩; (focus (try dsimp only at hS; go_simp; try rfl)); go_simp; refine hK _ ?_; clear hK K) | ((with_reducible refine wpMix_yes ?_ (fun K hK => ?_)); (focus (first | (go_simp; done) | (go_simp; simp; done) | (go_simp; intro h; cases h; done))); apply Exists.intro; refine ⟨fun w' hS => ?_, ?_⟩; (focus (try dsimp only at hS; go_simp; try rfl)); go_simp; refine hK _ ?_; clear hK K) | ((with_reducible refine wpMix_no ?_ (fun K hK => ?_)); (focus (first | (go_simp; done) | (go_simp; simp; done) | (go_simp; intro h; cases h; done))); go_simp; refine hK _ ?_; clear hK K) | ((with_reducible refine wpMix_do (fun K hK => ?_)); go_simp; refine hK _ _ (by first | assumption | exact hc) ?_; clear hK K))
        refine wpMix_nil ?_
        go_wp2_with fail
        go_ret
        refine ⟨?_, HW.out⟩
        rw [HR.out, if_pos (.inl hlt)]; rfl
      · have hd : decide ((H : Int) < 2 + J) = false := by simpa using hge
        rcases Int.lt_or_le (H : Int) (n : Int) with hlt2 | hge2
        · have hd2 : decide ((n : Int) ≤ (H : Int)) = false := by simpa using hlt2
          repeat (first | ((with_reducible refine wpMix_read ?_ (fun K hK => ?_)); (focus rfl); apply Exists.intro; refine ⟨fun w' hS => ?_, ?_⟩; (focus (try dsimp only at hS; go_simp; try rfl)); go_simp; refine hK _ ?_; clear hK K) | ((with_reducible refine wpMix_yes ?_ (fun K hK => ?_)); (focus (first | (go_simp; done) | (go_simp; simp; done) | (go_simp; intro h; cases h; done))); apply Exists.intro; refine ⟨fun w' hS => ?_, ?_⟩; (focus (try dsimp only at hS; go_simp; try rfl)); go_simp; refine hK _ ?_; clear hK K) | ((with_reducible refine wpMix_no ?_ (fun K hK => ?_)); (focus (first | (go_simp; done) | (go_simp; simp; done) | (go_simp; intro h; cases h; done))); go_simp; refine hK _ ?_; clear hK K) | ((with_reducible refine wpMix_do (fun K hK => ?_)); go_simp; refine hK _ _ (by first | assumption | exact hc) ?_; clear hK K))
          refine wpMix_nil ?_
          go_wp2_with fail
          go_ret
          refine ⟨?_, HW.out⟩
          rw [HR.out, if_neg (by omega)]; rfl
        · have hd2 : decide ((n : Int) ≤ (H : Int)) = true := by simpa using hge2
          repeat (first | ((with_reducible refine wpMix_read ?_ (fun K hK => ?_)); (focus rfl); apply Exists.intro; refine ⟨fun w' hS => ?_, ?_⟩; (focus (try dsimp only at hS; go_simp; try rfl)); go_simp; refine hK _ ?_; clear hK K) | ((with_reducible refine wpMix_yes ?_ (fun K hK => ?_)); (focus (first | (go_simp; done) | (go_simp; simp; done) | (go_simp; intro h; cases h; done))); apply Exists.intro; refine ⟨fun w' hS => ?_, ?_⟩; (focus (try dsimp only at hS; go_simp; try rfl)); go_simp; refine hK _ ?_; clear hK K) | ((with_reducible refine wpMix_no ?_ (fun K hK => ?_)); (focus (first | (go_simp; done) | (go_simp; simp; done) | (go_simp; intro h; cases h; done))); go_simp; refine hK _ ?_; clear hK K) | ((with_reducible refine wpMix_do (fun K hK => ?_)); go_simp; refine hK _ _ (by first | assumption | exact hc) ?_; clear hK K))
          refine wpMix_nil ?_
          go_wp2_with fail
          go_ret
          refine ⟨?_, HW.out⟩
          rw [HR.out, if_pos (.inr hge2)]; rfl

theorem super_check (s : SU) (n : Nat) (hn : n ≤ 4096) (w : World) :
    Calls Tryz.prog 109 #[s.v, .int .i64 (n : Int)] w fun e w' => e = .returned (.int .i64 (suCheck s n)) ∧ Below w.heap.size w w' := by
  cases h : suBad s with
  | false => exact super_check_ok s n hn h w
  | true =>
    have : suCheck s n = 4 := by unfold suCheck; rw [if_pos h]
    rw [this]
    exact super_check_bad s n hn h w
end Go.Proofs.YtajojhfialbfkaaGreatDoor
/- Layer 7: supers, written. -/
namespace Go.Proofs.YtajojhfialbfkaaGreatDoor
open Go.RowKit
set_option maxRecDepth 100000

def magicB : List UInt8 := [83, 66, 65, 84]
/-- A super's bytes. -/
def SU.bytes (s : SU) : List UInt8 := (((magicB ++ numB s.journal.toNat 2) ++ numB s.bits.toNat 2) ++ numB s.head 2) ++ numB s.next 4
theorem SU.bytes_length (s : SU) : s.bytes.length = 14 := by simp [SU.bytes, magicB, numB_length]

/-- Its numbers are small. -/
structure SU.small (s : SU) : Prop where
  j0 : 0 ≤ s.journal
  j1 : s.journal ≤ 512
  b0 : 0 ≤ s.bits
  b1 : s.bits ≤ 256
  h1 : s.head ≤ 4096
  n1 : s.next < 4294967296
  e1 : s.epoch < 4294967296

theorem OutAt.below {w w' : World} {B o : Nat} {l : List UInt8} (h : OutAt w B o l) (hb : Below w.heap.size w w') : OutAt w' B o l := by
  obtain ⟨g1, v, g2, g3⟩ := h
  exact ⟨g1, v, blk_below g2 hb (lt_of_blk g2), ownsRow_fr g3 (Fr.of_below (F := fun _ => False) hb) (fun _ _ h => h)⟩
theorem OutAt.drew {w : World} {B o : Nat} {l : List UInt8} (h : OutAt w B o l) : OutAt w.drew B o l := ⟨h.ge, h.row⟩

set_option maxHeartbeats 1000000 in
theorem super_bytes (s : SU) (hs : s.small) (w : World) :
    Calls Tryz.prog 155 #[s.v] w fun e w' => e = .returned (.string (bstr s.bytes)) ∧ Below w.heap.size w w' := by
  obtain ⟨E, J, B, H, N⟩ := s
  obtain ⟨j0, j1, b0, b1, h1, n1, e1⟩ := hs
  simp only at j0 j1 b0 b1 h1 n1 e1
  obtain ⟨j, rfl⟩ := Int.eq_ofNat_of_zero_le j0
  obtain ⟨b, rfl⟩ := Int.eq_ofNat_of_zero_le b0
  have wj := u64_in j (by omega)
  have wb := u64_in b (by omega)
  have wh := u64_in H (by omega)
  have wn := u64_in N (by omega)
  simp only [SU.v]
  clear j0 j1 b0 b1 h1 n1 e1
  go_enter Tryz.func155, Tryz.ntmps155
  go_wp2_with fail
  have hb0 := blk_alloc (o' := Obj.cells #[.slice none 0 0] 182) (blk_new (w := w) (o := Obj.cells #[.int .u32 (E : Int), .int .i64 (j : Int), .int .i64 (b : Int), .int .i64 (H : Int), .int .u32 (N : Int)] 69) rfl)
  have hO : OutAt ((w.alloc (Obj.cells #[.int .u32 (E : Int), .int .i64 (j : Int), .int .i64 (b : Int), .int .i64 (H : Int), .int .u32 (N : Int)] 69)).alloc (Obj.cells #[.slice none 0 0] 182)) (w.heap.size + 1) (w.heap.size + 1) [] :=
    ⟨Nat.le_refl _, .slice none 0 0, blk_new (by simp), by simp [bcells], .inl ⟨rfl, rfl⟩⟩
  have hsz : ((w.alloc (Obj.cells #[.int .u32 (E : Int), .int .i64 (j : Int), .int .i64 (b : Int), .int .i64 (H : Int), .int .u32 (N : Int)] 69)).alloc (Obj.cells #[.slice none 0 0] 182)).heap.size = w.heap.size + 1 + 1 := by simp
  have hbel : Below w.heap.size w ((w.alloc (Obj.cells #[.int .u32 (E : Int), .int .i64 (j : Int), .int .i64 (b : Int), .int .i64 (H : Int), .int .u32 (N : Int)] 69)).alloc (Obj.cells #[.slice none 0 0] 182)) := ((Below.refl _ w).alloc (Nat.le_refl _) _).alloc (by simp) _
  generalize ((w.alloc (Obj.cells #[.int .u32 (E : Int), .int .i64 (j : Int), .int .i64 (b : Int), .int .i64 (H : Int), .int .u32 (N : Int)] 69)).alloc (Obj.cells #[.slice none 0 0] 182)) = w0 at *
  have hc := cell_blk hb0
  refine wp_region_perm 16 (fun w' => ∀ i, w'.cell? ⟨w.heap.size, i, none⟩ = #[.int .u32 (E : Int), .int .i64 (j : Int), .int .i64 (b : Int), .int .i64 (H : Int), .int .u32 (N : Int)][i]?) [(1, true), (2, true), (3, true), (5, true), (6, true), (7, true), (9, true), (10, true), (11, true), (13, true), (14, true), (15, true), (0, false), (4, false), (8, false), (12, false)] (by kernel_rfl) (by kernel_rfl) ?_ (by intro c a d v w h; cases d <;> exact h) ?_
  · exact hc
  simp only [pickOps, List.getElem?_cons_succ, List.getElem?_cons_zero, List.map_cons, List.map_nil, List.drop_succ_cons, List.drop_zero]
  repeat ((with_reducible refine wpMix_read ?_ (fun K hK => ?_)); (focus rfl); apply Exists.intro; refine ⟨fun w' hS => ?_, ?_⟩; (focus (try dsimp only at hS; go_simp; try rfl)); go_simp; refine hK _ ?_; clear hK K)
  have hO1 := hO.drew
  have hB1 := blk_drew hb0
  have hL1 := hbel.drew
  have hz1 : w.heap.size + 1 + 1 ≤ w0.drew.heap.size := by show _ ≤ w0.heap.size; omega
  clear hO hb0 hbel hc hsz
  generalize w0.drew = w1 at *
  refine wpMix_act rfl (fun K hK => ?_)
  go_simp
  refine (out_text (w.heap.size + 1) (w.heap.size + 1) [] (bstr magicB) (by rw [size_bstr]; decide) w1 hO1 (by omega)).mono ?_
  rw [data_bstr, List.nil_append]
  rintro e w2 ⟨rfl, hO2, hbx⟩
  have hz2 := Nat.le_trans hz1 hbx.size
  have hB2 := blk_below hB1 hbx (by omega)
  have hL2 := hL1.trans (hbx.mono (by omega))
  refine hK _ _ (cell_blk hB2) ?_; clear hK K
  repeat ((with_reducible refine wpMix_read ?_ (fun K hK => ?_)); (focus rfl); apply Exists.intro; refine ⟨fun w' hS => ?_, ?_⟩; (focus (try dsimp only at hS; go_simp; try rfl)); go_simp; refine hK _ ?_; clear hK K)
  refine wpMix_act rfl (fun K hK => ?_)
  go_simp
  refine (out_num (w.heap.size + 1) (w.heap.size + 1) _ j 2 (by decide) (by decide) (by simp [magicB]) w2 hO2 (by omega)).mono ?_
  rintro e w3 ⟨rfl, hO3, hbx⟩
  have hz3 := Nat.le_trans hz2 hbx.size
  have hB3 := blk_below hB2 hbx (by omega)
  have hL3 := hL2.trans (hbx.mono (by omega))
  refine hK _ _ (cell_blk hB3) ?_; clear hK K
  repeat ((with_reducible refine wpMix_read ?_ (fun K hK => ?_)); (focus rfl); apply Exists.intro; refine ⟨fun w' hS => ?_, ?_⟩; (focus (try dsimp only at hS; go_simp; try rfl)); go_simp; refine hK _ ?_; clear hK K)
  refine wpMix_act rfl (fun K hK => ?_)
  go_simp
  refine (out_num (w.heap.size + 1) (w.heap.size + 1) _ b 2 (by decide) (by decide) (by simp [magicB, numB_length]) w3 hO3 (by omega)).mono ?_
  rintro e w4 ⟨rfl, hO4, hbx⟩
  have hz4 := Nat.le_trans hz3 hbx.size
  have hB4 := blk_below hB3 hbx (by omega)
  have hL4 := hL3.trans (hbx.mono (by omega))
  refine hK _ _ (cell_blk hB4) ?_; clear hK K
  repeat ((with_reducible refine wpMix_read ?_ (fun K hK => ?_)); (focus rfl); apply Exists.intro; refine ⟨fun w' hS => ?_, ?_⟩; (focus (try dsimp only at hS; go_simp; try rfl)); go_simp; refine hK _ ?_; clear hK K)
  refine wpMix_act rfl (fun K hK => ?_)
  go_simp
  refine (out_num (w.heap.size + 1) (w.heap.size + 1) _ H 2 (by decide) (by decide) (by simp [magicB, numB_length]) w4 hO4 (by omega)).mono ?_
  rintro e w5 ⟨rfl, hO5, hbx⟩
  have hz5 := Nat.le_trans hz4 hbx.size
  have hB5 := blk_below hB4 hbx (by omega)
  have hL5 := hL4.trans (hbx.mono (by omega))
  refine hK _ _ (cell_blk hB5) ?_; clear hK K
  repeat ((with_reducible refine wpMix_read ?_ (fun K hK => ?_)); (focus rfl); apply Exists.intro; refine ⟨fun w' hS => ?_, ?_⟩; (focus (try dsimp only at hS; go_simp; try rfl)); go_simp; refine hK _ ?_; clear hK K)
  refine wpMix_nil ?_
  have HH := Lib.hid (out_num (w.heap.size + 1) (w.heap.size + 1) _ N 4 (by decide) (by decide) (by simp [magicB, numB_length]) w5 hO5 (by omega))
  have HL := Lib.hid hL5
  clear hO1 hO2 hO3 hO4 hO5 hB1 hB2 hB3 hB4 hB5 hL1 hL2 hL3 hL4 hL5 hz1 hz2 hz3 hz4
  go_wp2_with fail
  refine HH.out.mono ?_
  rintro e w6 ⟨rfl, hO6, hbx⟩
  have HL := Lib.hid (HL.out.trans (hbx.mono (by omega)))
  have hby := Lib.hid (out_bytes _ _ _ _ hO6)
  clear hO6 hbx
  go_wp2_with fail
  refine hby.out.mono ?_
  rintro e w7 ⟨rfl, rfl⟩
  go_wp2_with fail
  go_ret
  exact ⟨rfl, HL.out⟩

/-- A super's sector. -/
def SU.sector (s : SU) : List UInt8 := frameB s.epoch 0 s.bytes
theorem SU.sector_length (s : SU) : s.sector.length = 64 := frameB_length _ _ _ (by rw [SU.bytes_length]; decide)

set_option maxHeartbeats 1000000 in
theorem super_write {w : World} {d : Nat} {sv : Value} {D : DS} (s : SU) (hs : s.small) (h : DiskAt w d sv D) (hz : D.dead = false) (h0 : 0 ≤ D.left) (h1 : D.left ≤ 1000000) (hn : D.l.length ≤ 4096) (hck : suCheck s D.l.length = 0) :
    Calls Tryz.prog 102 #[s.v, .pointer (some ⟨d, 0, none⟩)] w fun e w' =>
      ((e = unit0 ∧ D.can = true ∧ DiskAt w' d sv (D.wrote (s.epoch % 2) (bstr s.sector))) ∨ (e = failed 12 ∧ D.can = false ∧ DiskAt w' d sv D.cut)) ∧ Fr (DiskF d sv) w w' := by
  have hby := fun W => super_bytes s hs W
  have hfr := fun W => stamp_frame s.epoch 0 hs.e1 (by decide) s.bytes (by rw [SU.bytes_length]; decide) W
  have hchk := fun W => super_check s D.l.length hn W
  rw [hck] at hchk
  have hepo : s.epoch % 2 < D.l.length := by
    have : suBad s = false := by
      cases hb : suBad s with
      | false => rfl
      | true => unfold suCheck at hck; rw [if_pos hb] at hck; cases hck
    simp only [suBad, Bool.or_eq_false_iff, decide_eq_false_iff_not] at this
    unfold suCheck at hck
    split at hck
    · cases hck
    · split at hck
      · cases hck
      · split at hck
        · cases hck
        · omega
  obtain ⟨E, J, B, H, N⟩ := s
  simp only [SU.v] at *
  have hwr := fun (W : World) (hW : DiskAt W d sv D) => disk_write hW hz h0 h1 (E % 2) hepo (bstr (SU.sector ⟨E, J, B, H, N⟩)) (by rw [size_bstr, SU.sector_length]; decide)
  have e2 : IntKind.u32.wrap ((E : Int) % 2) = ((E % 2 : Nat) : Int) := by
    rw [show ((E : Int) % 2) = ((E % 2 : Nat) : Int) by omega]; exact u32_in _ (by omega)
  have e3 : IntKind.i64.wrap ((E % 2 : Nat) : Int) = ((E % 2 : Nat) : Int) := IntWalk.i64_in _ (by omega)
  have e4 : ((E : Int).tmod 2) = ((E % 2 : Nat) : Int) := by rw [Int.tmod_eq_emod_of_nonneg (by omega)]; omega
  clear e2
  have HBy := Lib.hid hby
  have HFr := Lib.hid hfr
  have HCk := Lib.hid hchk
  have HWr := Lib.hid hwr
  have HD := Lib.hid h
  clear hby hfr hchk hwr h hs hz h0 h1 hck hn hepo
  go_enter Tryz.func102, Tryz.ntmps102
  go_wp2_with fail
  have hb0 := blk_new (w := w) (o := Obj.cells #[.int .u32 (E : Int), .int .i64 J, .int .i64 B, .int .i64 (H : Int), .int .u32 (N : Int)] 69) rfl
  have hbel : Below w.heap.size w (w.alloc (Obj.cells #[.int .u32 (E : Int), .int .i64 J, .int .i64 B, .int .i64 (H : Int), .int .u32 (N : Int)] 69)) := (Below.refl _ w).alloc (Nat.le_refl _) _
  have hsz : w.heap.size < (w.alloc (Obj.cells #[.int .u32 (E : Int), .int .i64 J, .int .i64 B, .int .i64 (H : Int), .int .u32 (N : Int)] 69)).heap.size := by simp
  generalize w.alloc (Obj.cells #[.int .u32 (E : Int), .int .i64 J, .int .i64 B, .int .i64 (H : Int), .int .u32 (N : Int)] 69) = w0 at *
  have hd0 := HD.out.fr (Fr.of_below (F := fun _ => False) hbel) (fun _ _ h => h)
  have hc := cell_blk hb0
  refine wp_region_perm 4 (fun w' => ∀ i, w'.cell? ⟨w.heap.size, i, none⟩ = #[.int .u32 (E : Int), .int .i64 J, .int .i64 B, .int .i64 (H : Int), .int .u32 (N : Int)][i]?) [(0, true), (1, true), (2, false), (3, false)] (by kernel_rfl) (by kernel_rfl) ?_ (by intro c a d v w h; cases d <;> exact h) ?_
  · exact hc
  simp only [pickOps, List.getElem?_cons_succ, List.getElem?_cons_zero, List.map_cons, List.map_nil, List.drop_succ_cons, List.drop_zero]
  repeat ((with_reducible refine wpMix_read ?_ (fun K hK => ?_)); (focus rfl); apply Exists.intro; refine ⟨fun w' hS => ?_, ?_⟩; (focus (try dsimp only at hS; go_simp; try rfl)); go_simp; refine hK _ ?_; clear hK K)
  refine wpMix_act rfl (fun K hK => ?_)
  go_simp
  refine (disk_len hd0.drew).mono ?_
  rintro e w1 ⟨rfl, rfl⟩
  refine hK _ _ hc ?_; clear hK K
  repeat ((with_reducible refine wpMix_read ?_ (fun K hK => ?_)); (focus rfl); apply Exists.intro; refine ⟨fun w' hS => ?_, ?_⟩; (focus (try dsimp only at hS; go_simp; try rfl)); go_simp; refine hK _ ?_; clear hK K)
  refine wpMix_act rfl (fun K hK => ?_)
  go_simp
  refine (HCk.out _).mono ?_
  rintro e w1 ⟨rfl, hb1⟩
  have hB1 := blk_below (blk_drew hb0) hb1 hsz
  have hbel1 := hbel.drew.trans (hb1.mono (by show w.heap.size ≤ w0.heap.size; omega))
  have hz1 : w.heap.size < w1.heap.size := Nat.lt_of_lt_of_le hsz hb1.size
  refine hK _ _ (cell_blk hB1) ?_; clear hK K hc hd0 hb0 hbel hb1 hsz
  refine wpMix_nil ?_
  have hd1 := HD.out.fr (Fr.of_below (F := fun _ => False) hbel1) (fun _ _ h => h)
  have HB := Lib.hid hB1
  have HBe := Lib.hid hbel1
  have HD1 := Lib.hid hd1
  clear hB1 hbel1 hd1
  go_wp2_with fail
  have hc := cell_blk HB.out
  refine wp_region_perm 11 (fun w' => ∀ i, w'.cell? ⟨w.heap.size, i, none⟩ = #[.int .u32 (E : Int), .int .i64 J, .int .i64 B, .int .i64 (H : Int), .int .u32 (N : Int)][i]?) [(0, true), (1, true), (2, true), (3, true), (4, true), (5, true), (6, true), (7, true), (8, true), (9, false), (10, false)] (by kernel_rfl) (by kernel_rfl) ?_ (by intro c a d v w h; cases d <;> exact h) ?_
  · exact hc
  simp only [pickOps, List.getElem?_cons_succ, List.getElem?_cons_zero, List.map_cons, List.map_nil, List.drop_succ_cons, List.drop_zero]
  repeat ((with_reducible refine wpMix_read ?_ (fun K hK => ?_)); (focus rfl); apply Exists.intro; refine ⟨fun w' hS => ?_, ?_⟩; (focus (try dsimp only at hS; go_simp; try rfl)); go_simp; refine hK _ ?_; clear hK K)
  refine wpMix_act rfl (fun K hK => ?_)
  go_simp
  refine (HBy.out _).mono ?_
  rintro e w2 ⟨rfl, hb2⟩
  have hB2 := blk_below (blk_drew HB.out) hb2 hz1
  have hbel2 := HBe.out.drew.trans (hb2.mono (by show w.heap.size ≤ w1.heap.size; omega))
  refine hK _ _ (cell_blk hB2) ?_; clear hK K
  repeat ((with_reducible refine wpMix_read ?_ (fun K hK => ?_)); (focus rfl); apply Exists.intro; refine ⟨fun w' hS => ?_, ?_⟩; (focus (try dsimp only at hS; go_simp; try rfl)); go_simp; refine hK _ ?_; clear hK K)
  refine wpMix_act rfl (fun K hK => ?_)
  go_simp
  refine (HFr.out _).mono ?_
  rintro e w3 ⟨rfl, hb3⟩
  have hz2 : w.heap.size < w2.heap.size := Nat.lt_of_lt_of_le hz1 (show w1.heap.size ≤ _ from hb2.size)
  have hB3 := blk_below hB2 hb3 hz2
  have hbel3 := hbel2.trans (hb3.mono (by omega))
  refine hK _ _ (cell_blk hB3) ?_; clear hK K
  repeat ((with_reducible refine wpMix_read ?_ (fun K hK => ?_)); (focus rfl); apply Exists.intro; refine ⟨fun w' hS => ?_, ?_⟩; (focus (try dsimp only at hS; go_simp; try rfl)); go_simp; refine hK _ ?_; clear hK K)
  refine wpMix_nil ?_
  have hd3 := HD.out.fr (Fr.of_below (F := fun _ => False) hbel3) (fun _ _ h => h)
  have HW3 := Lib.hid (HWr.out w3 hd3)
  have HB3 := Lib.hid hbel3
  clear hd3 hbel3 hB3 hb3 hB2 hbel2 hb2 hz2 hz1 hc
  go_wp2_with fail
  refine HW3.out.mono ?_
  rintro e w4 ⟨⟨rfl, h1, h2⟩ | ⟨rfl, h1, h2⟩, hF⟩
  · have H2 := Lib.hid (And.intro h1 h2)
    have HF := Lib.hid hF
    clear h1 h2 hF
    go_wp2_with fail
    go_end0
    exact ⟨.inl ⟨rfl, H2.out.1, H2.out.2⟩, (Fr.of_below HB3.out).trans HF.out (fun _ _ h => h)⟩
  · exact ⟨rfl, .inr ⟨rfl, h1, h2⟩, (Fr.of_below HB3.out).trans hF (fun _ _ h => h)⟩
end Go.Proofs.YtajojhfialbfkaaGreatDoor
/- Layer 7: supers, read. -/
namespace Go.Proofs.YtajojhfialbfkaaGreatDoor
open Go.RowKit
set_option maxRecDepth 100000

set_option maxHeartbeats 1000000 in
theorem in_num_short (i : Nat) (l : List UInt8) (n : Nat) (h1 : 1 ≤ n) (h8 : n ≤ 7) (hn : l.length < n) (w : World) (h : InAt w i l) :
    Calls Tryz.prog 188 #[.pointer (some ⟨i, 0, none⟩), .int .i64 (n : Int)] w fun e w' => e = failed 2 ∧ w = w' := by
  have HT := Lib.hid (in_text_end i l n hn (by omega) w h)
  have em : min (max (n : Int) 1) 8 = (n : Int) := by omega
  clear h
  go_enter Tryz.func188, Tryz.ntmps188
  go_wp2_with fail
  refine HT.out.mono ?_
  rintro e w' ⟨rfl, rfl⟩
  exact ⟨rfl, rfl, rfl⟩

theorem in_num_any (i : Nat) (l : List UInt8) (n : Nat) (h1 : 1 ≤ n) (h8 : n ≤ 7) (hl : l.length ≤ 1000000) (w : World) (h : InAt w i l) :
    Calls Tryz.prog 188 #[.pointer (some ⟨i, 0, none⟩), .int .i64 (n : Int)] w fun e w' =>
      (n ≤ l.length ∧ e = .returned (.int .u64 (beNat (l.take n) : Nat)) ∧ InAt w' i (l.drop n) ∧ Fr (fun k => k = i) w w') ∨ (l.length < n ∧ e = failed 2 ∧ w = w') := by
  rcases Nat.lt_or_ge l.length n with hn | hn
  · refine (in_num_short i l n h1 h8 hn w h).mono ?_
    rintro e w' ⟨rfl, rfl⟩
    exact .inr ⟨hn, rfl, rfl⟩
  · refine (in_num i l n h1 h8 hn hl w h).mono ?_
    rintro e w' ⟨rfl, h1, h2⟩
    exact .inl ⟨hn, rfl, h1, h2⟩

theorem in_text_any (i : Nat) (l : List UInt8) (n : Nat) (hl : l.length ≤ 1000000) (w : World) (h : InAt w i l) :
    Calls Tryz.prog 187 #[.pointer (some ⟨i, 0, none⟩), .int .i64 (n : Int)] w fun e w' =>
      (n ≤ l.length ∧ e = .returned (.string (bstr (l.take n))) ∧ InAt w' i (l.drop n) ∧ Fr (fun k => k = i) w w') ∨ (l.length < n ∧ e = failed 2 ∧ w = w') := by
  rcases Nat.lt_or_ge l.length n with hn | hn
  · refine (in_text_end i l n hn hl w h).mono ?_
    rintro e w' ⟨rfl, rfl⟩
    exact .inr ⟨hn, rfl, rfl⟩
  · refine (in_text i l n hn hl w h).mono ?_
    rintro e w' ⟨rfl, rfl⟩
    exact .inl ⟨hn, rfl, blk_set h, (Fr.refl (fun k => k = i) w).setCell (p := ⟨i, 0, none⟩) (fun _ => rfl) _⟩

theorem in_done_any (i : Nat) (l : List UInt8) (w : World) (h : InAt w i l) :
    Calls Tryz.prog 189 #[.pointer (some ⟨i, 0, none⟩)] w fun e w' => w = w' ∧ ((l = [] ∧ e = unit0) ∨ (l ≠ [] ∧ e = failed 1)) := by
  by_cases hl : l = []
  · subst hl
    refine (in_done i w h).mono ?_
    rintro e w' ⟨rfl, rfl⟩
    exact ⟨rfl, .inl ⟨rfl, rfl⟩⟩
  · refine (in_done_left i l hl w h).mono ?_
    rintro e w' ⟨rfl, rfl⟩
    exact ⟨rfl, .inr ⟨hl, rfl⟩⟩

/-- A super's cells. -/
abbrev suObj (s : SU) : Obj := .cells #[.int .u32 (s.epoch : Int), .int .i64 s.journal, .int .i64 s.bits, .int .i64 (s.head : Int), .int .u32 (s.next : Int)] 69 (0, 0)

/-- What a text says. -/
def textSuper (E : Nat) (t : List UInt8) : Option SU :=
  if t.length = 14 ∧ t.take 4 = magicB then some ⟨E, (beNat ((t.drop 4).take 2) : Nat), (beNat ((t.drop 6).take 2) : Nat), beNat ((t.drop 8).take 2), beNat ((t.drop 10).take 4)⟩ else none

def ParseIn (b E : Nat) (t : List UInt8) (w : World) (o : Option Int) (w' : World) : Prop :=
  Fr (fun k => k = b) w w' ∧ ((o = none ∧ ∃ s, textSuper E t = some s ∧ w'.heap[b]? = some (suObj s)) ∨ (o ≠ none ∧ o ≠ some 0 ∧ textSuper E t = none ∧ ∃ s, w'.heap[b]? = some (suObj s)))

theorem be_take (l : List UInt8) (n : Nat) : beNat (l.take n) < 256 ^ n :=
  Nat.lt_of_lt_of_le (beNat_lt _) (Nat.pow_le_pow_right (by decide) (by rw [List.length_take]; exact Nat.min_le_left _ _))

set_option maxHeartbeats 1000000 in
theorem parse_in (a b E : Nat) (t : List UInt8) (hl : t.length ≤ 1000) (w : World) (ha : w.heap[a]? = some (.cells #[.string (bstr t)] 9 (0, 0))) (hb : w.heap[b]? = some (suObj ⟨E, 0, 0, 0, 0⟩)) (_hne : a ≠ b) :
    Calls Tryz.prog 202 #[.pointer (some ⟨a, 0, none⟩), .pointer (some ⟨b, 0, none⟩)] w (Comes0 (ParseIn b E t w)) := by
  have hc := cell_blk ha
  have HB := Lib.hid hb
  have HL := Lib.hid hl
  clear ha hb hl
  go_enter Tryz.func202, Tryz.ntmps202
  go_wp2_with fail
  refine (in_read t w).mono ?_
  rintro e w1 ⟨rfl, rfl⟩
  have hI : InAt (w.alloc (.cells #[.string (bstr t)] 287)) w.heap.size t := blk_alloc_new _ _
  have hB := blk_alloc (o' := .cells #[.string (bstr t)] 287) HB.out
  have hbl : b < w.heap.size := lt_of_blk HB.out
  have hF : Fr (fun k => k = b) w (w.alloc (.cells #[.string (bstr t)] 287)) := (Fr.refl _ w).alloc _
  generalize w.alloc (.cells #[.string (bstr t)] 287) = w1 at *
  have HI := Lib.hid hI
  have HB := Lib.hid hB
  have HF := Lib.hid hF
  clear hc hI hB hF
  go_wp2_with fail
  refine (in_text_any w.heap.size t 4 (by have := HL.out; omega) w1 HI.out).mono ?_
  rintro e w2 (⟨hn, rfl, hI, hf⟩ | ⟨hn, rfl, rfl⟩)
  · have HN := Lib.hid hn
    have HI := Lib.hid hI
    have HB := Lib.hid (hf.blk HB.out (by omega))
    have HF := Lib.hid (HF.out.trans hf (fun x hx e => by omega))
    clear hn hI hf
    by_cases hm : t.take 4 = magicB
    · rw [hm]
      have HM := Lib.hid hm
      have em : (bstr magicB).toList = [83, 66, 65, 84] := toList_bstr _
      have q1 : IntKind.i64.wrap (beNat ((t.drop 4).take 2) : Int) = (beNat ((t.drop 4).take 2) : Int) := IntWalk.i64_in _ (by have := be_take (t.drop 4) 2; omega)
      have q2 : IntKind.i64.wrap (beNat ((t.drop 6).take 2) : Int) = (beNat ((t.drop 6).take 2) : Int) := IntWalk.i64_in _ (by have := be_take (t.drop 6) 2; omega)
      have q3 : IntKind.i64.wrap (beNat ((t.drop 8).take 2) : Int) = (beNat ((t.drop 8).take 2) : Int) := IntWalk.i64_in _ (by have := be_take (t.drop 8) 2; omega)
      have q4 : IntKind.u32.wrap (beNat ((t.drop 10).take 4) : Int) = (beNat ((t.drop 10).take 4) : Int) := u32_in _ (by have := be_take (t.drop 10) 4; omega)
      clear hm
      go_wp2_with fail
      refine (in_num_any w.heap.size _ 2 (by decide) (by decide) (by rw [List.length_drop]; have := HL.out; omega) _ HI.out).mono ?_
      rintro e w3 (⟨hn, rfl, hI, hf⟩ | ⟨hn, rfl, rfl⟩)
      rotate_left
      · refine ⟨rfl, .inr ⟨2, rfl, HF.out, .inr ⟨by simp, by simp, ?_, _, HB.out⟩⟩⟩
        unfold textSuper
        rw [if_neg (by rw [List.length_drop] at hn; omega)]
      rw [List.drop_drop] at hI
      have HN1 := Lib.hid hn
      have HI := Lib.hid hI
      have HB := Lib.hid (hf.blk HB.out (by omega))
      have HF := Lib.hid (HF.out.trans hf (fun x hx e => by omega))
      clear hn hI hf
      go_wp2_with fail
      refine (in_num_any w.heap.size _ 2 (by decide) (by decide) (by rw [List.length_drop]; have := HL.out; omega) _ HI.out).mono ?_
      rintro e w4 (⟨hn, rfl, hI, hf⟩ | ⟨hn, rfl, rfl⟩)
      rotate_left
      · refine ⟨rfl, .inr ⟨2, rfl, HF.out, .inr ⟨by simp, by simp, ?_, _, HB.out⟩⟩⟩
        unfold textSuper
        rw [if_neg (by rw [List.length_drop] at hn; omega)]
      rw [List.drop_drop] at hI
      have HN2 := Lib.hid hn
      have HI := Lib.hid hI
      have HB := Lib.hid (hf.blk HB.out (by omega))
      have HF := Lib.hid (HF.out.trans hf (fun x hx e => by omega))
      clear hn hI hf
      go_wp2_with fail
      refine (in_num_any w.heap.size _ 2 (by decide) (by decide) (by rw [List.length_drop]; have := HL.out; omega) _ HI.out).mono ?_
      rintro e w5 (⟨hn, rfl, hI, hf⟩ | ⟨hn, rfl, rfl⟩)
      rotate_left
      · refine ⟨rfl, .inr ⟨2, rfl, HF.out, .inr ⟨by simp, by simp, ?_, _, HB.out⟩⟩⟩
        unfold textSuper
        rw [if_neg (by rw [List.length_drop] at hn; omega)]
      rw [List.drop_drop] at hI
      have HN3 := Lib.hid hn
      have HI := Lib.hid hI
      have HB := Lib.hid (hf.blk HB.out (by omega))
      have HF := Lib.hid (HF.out.trans hf (fun x hx e => by omega))
      clear hn hI hf
      go_wp2_with fail
      refine (in_num_any w.heap.size _ 4 (by decide) (by decide) (by rw [List.length_drop]; have := HL.out; omega) _ HI.out).mono ?_
      rintro e w6 (⟨hn, rfl, hI, hf⟩ | ⟨hn, rfl, rfl⟩)
      rotate_left
      · refine ⟨rfl, .inr ⟨2, rfl, HF.out, .inr ⟨by simp, by simp, ?_, _, HB.out⟩⟩⟩
        unfold textSuper
        rw [if_neg (by rw [List.length_drop] at hn; omega)]
      rw [List.drop_drop] at hI
      have HN4 := Lib.hid hn
      have HI := Lib.hid hI
      have HB := Lib.hid (hf.blk HB.out (by omega))
      have HF := Lib.hid (HF.out.trans hf (fun x hx e => by omega))
      clear hn hI hf
      have hI := HI.out
      have hB := HB.out
      have hb1 := blk_set (i := 1) (v := .int .i64 (beNat ((t.drop 4).take 2) : Int)) hB
      have hb2 := blk_set (i := 2) (v := .int .i64 (beNat ((t.drop 6).take 2) : Int)) hb1
      have hb3 := blk_set (i := 3) (v := .int .i64 (beNat ((t.drop 8).take 2) : Int)) hb2
      have hb4 := blk_set (i := 4) (v := .int .u32 (beNat ((t.drop 10).take 4) : Int)) hb3
      simp only [List.setIfInBounds_toArray, List.set_cons_zero, List.set_cons_succ] at hb4
      have hI4 : InAt ((((w6.setCell ⟨b, 1, none⟩ (.int .i64 (beNat ((t.drop 4).take 2) : Int))).setCell ⟨b, 2, none⟩ (.int .i64 (beNat ((t.drop 6).take 2) : Int))).setCell ⟨b, 3, none⟩ (.int .i64 (beNat ((t.drop 8).take 2) : Int))).setCell ⟨b, 4, none⟩ (.int .u32 (beNat ((t.drop 10).take 4) : Int))) w.heap.size (t.drop (4 + 2 + 2 + 2 + 4)) :=
        blk_far (blk_far (blk_far (blk_far hI (by show w.heap.size ≠ b; omega)) (by show w.heap.size ≠ b; omega)) (by show w.heap.size ≠ b; omega)) (by show w.heap.size ≠ b; omega)
      have hF4 : Fr (fun k => k = b) w ((((w6.setCell ⟨b, 1, none⟩ (.int .i64 (beNat ((t.drop 4).take 2) : Int))).setCell ⟨b, 2, none⟩ (.int .i64 (beNat ((t.drop 6).take 2) : Int))).setCell ⟨b, 3, none⟩ (.int .i64 (beNat ((t.drop 8).take 2) : Int))).setCell ⟨b, 4, none⟩ (.int .u32 (beNat ((t.drop 10).take 4) : Int))) :=
        (((HF.out.setCell (p := ⟨b, 1, none⟩) (fun _ => rfl) _).setCell (p := ⟨b, 2, none⟩) (fun _ => rfl) _).setCell (p := ⟨b, 3, none⟩) (fun _ => rfl) _).setCell (p := ⟨b, 4, none⟩) (fun _ => rfl) _
      have hc := cell_blk hB
      have hfz := frozen_blk hB
      have HI := Lib.hid hI4
      have HB := Lib.hid hb4
      have HF := Lib.hid hF4
      clear hI hB hb1 hb2 hb3 hb4 hI4 hF4
      go_wp2_with fail
      refine (in_done_any _ _ _ HI.out).mono ?_
      rintro e w7 ⟨rfl, ⟨hz, rfl⟩ | ⟨hz, rfl⟩⟩
      · have HZ := Lib.hid hz
        clear hz hc hfz
        go_wp2_with fail
        go_end0
        refine .inl ⟨rfl, HF.out, .inl ⟨rfl, ⟨E, (beNat ((t.drop 4).take 2) : Nat), (beNat ((t.drop 6).take 2) : Nat), beNat ((t.drop 8).take 2), beNat ((t.drop 10).take 4)⟩, ?_, HB.out⟩⟩
        unfold textSuper
        rw [if_pos ⟨by have h1 := congrArg List.length HZ.out; have h2 := HN4.out; rw [List.length_drop] at h1 h2; simp only [List.length_nil] at h1; omega, HM.out⟩]
      · refine ⟨rfl, .inr ⟨1, rfl, HF.out, .inr ⟨by simp, by simp, ?_, ⟨E, (beNat ((t.drop 4).take 2) : Nat), (beNat ((t.drop 6).take 2) : Nat), beNat ((t.drop 8).take 2), beNat ((t.drop 10).take 4)⟩, HB.out⟩⟩⟩
        unfold textSuper
        rw [if_neg (fun h => hz (List.length_eq_zero_iff.1 (by rw [List.length_drop]; omega)))]
    · have em : ((bstr (t.take 4)).toList == [83, 66, 65, 84]) = false := by
        rw [toList_bstr]
        exact (beq_eq_false_iff_ne).2 hm
      have HM := Lib.hid hm
      clear hm
      go_wp2_with fail
      refine (fail_any _ _).mono ?_
      rintro e w3 ⟨rfl, rfl⟩
      refine ⟨rfl, .inr ⟨1, rfl, HF.out, .inr ⟨by simp, by simp, ?_, _, HB.out⟩⟩⟩
      unfold textSuper
      rw [if_neg (fun h => HM.out h.2)]
  · refine ⟨rfl, .inr ⟨2, rfl, HF.out, .inr ⟨by simp, by simp, ?_, _, HB.out⟩⟩⟩
    unfold textSuper
    rw [if_neg (by omega)]
end Go.Proofs.YtajojhfialbfkaaGreatDoor
/- Layer 7: supers, read. -/
namespace Go.Proofs.YtajojhfialbfkaaGreatDoor
open Go.RowKit
set_option maxRecDepth 100000

/-- A slot's super. -/
def parseB (l : List UInt8) (n : Nat) : Option SU :=
  match openB (beNat (l.take 4)) (beNat ((l.drop 4).take 4)) l with
  | some t => if beNat ((l.drop 4).take 4) = 0 then (match textSuper (beNat (l.take 4)) t with | some s => if suCheck s n = 0 then some s else none | none => none) else none
  | none => none

theorem openB_len {e q : Nat} {l t : List UInt8} (h : openB e q l = some t) : t.length ≤ 47 := by
  unfold openB at h
  split at h
  · next hc => injection h with h; subst h; rw [List.length_take]; omega
  · cases h

theorem enters_parse (a b : Value) : Enters 202 (#[] ++ #[a, b]) := fun w => by simp [go_sem]

abbrev zeroSU : SU := ⟨0, 0, 0, 0, 0⟩

theorem su_set {w : World} {b : Nat} {x0 x1 x2 x3 x4 : Value} {t : TypeId} (h : w.heap[b]? = some (.cells #[x0, x1, x2, x3, x4] t (0, 0))) (y0 y1 y2 y3 y4 : Value) :
    (((((w.setCell ⟨b, 0, none⟩ y0).setCell ⟨b, 1, none⟩ y1).setCell ⟨b, 2, none⟩ y2).setCell ⟨b, 3, none⟩ y3).setCell ⟨b, 4, none⟩ y4).heap[b]? = some (.cells #[y0, y1, y2, y3, y4] t (0, 0)) := by
  have := blk_set (i := 4) (v := y4) (blk_set (i := 3) (v := y3) (blk_set (i := 2) (v := y2) (blk_set (i := 1) (v := y1) (blk_set (i := 0) (v := y0) h))))
  simpa only [List.setIfInBounds_toArray, List.set_cons_zero, List.set_cons_succ] using this
theorem su_far {w : World} {b c : Nat} {o : Obj} (h : w.heap[b]? = some o) (hne : b ≠ c) (y0 y1 y2 y3 y4 : Value) :
    (((((w.setCell ⟨c, 0, none⟩ y0).setCell ⟨c, 1, none⟩ y1).setCell ⟨c, 2, none⟩ y2).setCell ⟨c, 3, none⟩ y3).setCell ⟨c, 4, none⟩ y4).heap[b]? = some o :=
  blk_far (p := ⟨c, 4, none⟩) (blk_far (p := ⟨c, 3, none⟩) (blk_far (p := ⟨c, 2, none⟩) (blk_far (p := ⟨c, 1, none⟩) (blk_far (p := ⟨c, 0, none⟩) h hne) hne) hne) hne) hne
theorem su_fr {F : Nat → Prop} {a w : World} (h : Fr F a w) {b : Nat} (hb : b < a.heap.size → F b) (y0 y1 y2 y3 y4 : Value) :
    Fr F a (((((w.setCell ⟨b, 0, none⟩ y0).setCell ⟨b, 1, none⟩ y1).setCell ⟨b, 2, none⟩ y2).setCell ⟨b, 3, none⟩ y3).setCell ⟨b, 4, none⟩ y4) :=
  ((((h.setCell (p := ⟨b, 0, none⟩) hb _).setCell (p := ⟨b, 1, none⟩) hb _).setCell (p := ⟨b, 2, none⟩) hb _).setCell (p := ⟨b, 3, none⟩) hb _).setCell (p := ⟨b, 4, none⟩) hb _
theorem Fr.none_below {a w : World} (h : Fr (fun _ => False) a w) : Below a.heap.size a w := h.below (fun _ _ h => h.elim) (Nat.le_refl _)

def ParseEnd (l : List UInt8) (n : Nat) (w : World) (e : Ending) (w' : World) : Prop :=
  (∃ s b, e = .returned (.tuple #[SU.v s, .bool b]) ∧ ((b = true ∧ parseB l n = some s) ∨ (b = false ∧ parseB l n = none))) ∧ Below w.heap.size w w'

set_option maxHeartbeats 1000000 in
theorem super_parse (l : List UInt8) (hl : l.length = 64) (n : Nat) (hn : n ≤ 4096) (w : World) :
    Calls Tryz.prog 156 #[.string (bstr l), .int .i64 (n : Int)] w (ParseEnd l n w) := by
  have hof := fun W => stamp_of l hl W
  obtain ⟨E, hE⟩ : ∃ E, E = beNat (l.take 4) := ⟨_, rfl⟩
  obtain ⟨q, hq⟩ : ∃ q, q = beNat ((l.drop 4).take 4) := ⟨_, rfl⟩
  have hEl : E < 4294967296 := by rw [hE]; have := be_take l 4; omega
  have hql : q < 4294967296 := by rw [hq]; have := be_take (l.drop 4) 4; omega
  have hop := fun W => stamp_open E q hEl hql l hl W
  have hpar : parseB l n = match openB E q l with
    | some t => if q = 0 then (match textSuper E t with | some s => if suCheck s n = 0 then some s else none | none => none) else none
    | none => none := by rw [hE, hq]; rfl
  simp only [← hE, ← hq] at hof
  have hlen : ∀ t, openB E q l = some t → t.length ≤ 47 := fun t h => openB_len h
  generalize openB E q l = O at *
  have HOf := Lib.hid hof
  have HOp := Lib.hid hop
  have HPar := Lib.hid hpar
  have HN := Lib.hid hn
  have HLen := Lib.hid hlen
  have HEl := Lib.hid hEl
  clear hof hop hpar hl hE hq hEl hql hn hlen
  go_enter Tryz.func156, Tryz.ntmps156
  go_wp2_with fail
  have hb0 := blk_new (w := w) (o := (Obj.cells #[.int .u32 0, .int .i64 0, .int .i64 0, .int .i64 0, .int .u32 0] 69)) rfl
  have hL0 : Below w.heap.size w (w.alloc (Obj.cells #[.int .u32 0, .int .i64 0, .int .i64 0, .int .i64 0, .int .u32 0] 69)) := (Below.refl _ w).alloc (Nat.le_refl _) _
  have hz0 : (w.alloc (Obj.cells #[.int .u32 0, .int .i64 0, .int .i64 0, .int .i64 0, .int .u32 0] 69)).heap.size = w.heap.size + 1 := by simp
  generalize w.alloc (Obj.cells #[.int .u32 0, .int .i64 0, .int .i64 0, .int .i64 0, .int .u32 0] 69) = w0 at *
  refine (HOf.out w0).mono ?_
  rintro e w1 ⟨rfl, hb⟩
  have hz1 := hb.size
  have HR := Lib.hid (blk_below hb0 hb (by omega))
  have HL := Lib.hid (hL0.trans (hb.mono (by omega)))
  clear hb0 hL0 hb
  go_wp2_with fail
  have hsb := blk_new (w := w1) (o := Obj.cells #[.int .u32 (E : Int), .int .u32 (q : Int)] 223) rfl
  have hrb := blk_alloc (o' := Obj.cells #[.int .u32 (E : Int), .int .u32 (q : Int)] 223) HR.out
  have hL1 := HL.out.alloc (by omega) (Obj.cells #[.int .u32 (E : Int), .int .u32 (q : Int)] 223)
  have hz2 : (w1.alloc (Obj.cells #[.int .u32 (E : Int), .int .u32 (q : Int)] 223)).heap.size = w1.heap.size + 1 := by simp
  generalize w1.alloc (Obj.cells #[.int .u32 (E : Int), .int .u32 (q : Int)] 223) = w2 at *
  refine (HOp.out w2).mono ?_
  rintro e w3 ⟨rfl, hb⟩
  have hz3 := hb.size
  have HS := Lib.hid (blk_below hsb hb (by omega))
  have HR := Lib.hid (blk_below hrb hb (by omega))
  have HL := Lib.hid (hL1.trans (hb.mono (by omega)))
  clear hsb hrb hL1 hb
  cases O with
  | none =>
    have hR := HR.out
    have hr2 := cell_blk (blk_alloc (o' := Obj.cells #[.string ByteArray.empty] 9) hR)
    have hf2 := frozen_blk (blk_alloc (o' := Obj.cells #[.string ByteArray.empty] 9) hR)
    clear hR
    simp only [openV]
    go_wp2_with fail
    have hcf := cell_blk (su_set (blk_alloc (o' := Obj.cells #[.string ByteArray.empty] 9) HR.out) (.int .u32 0) (.int .i64 0) (.int .i64 0) (.int .i64 0) (.int .u32 0))
    refine bodyPost_ret (v := .tuple #[SU.v zeroSU, .bool false]) (by simp [results, Tryz.results156, go_sem, hcf, SU.v]) rfl ⟨⟨zeroSU, false, rfl, .inr ⟨rfl, HPar.out⟩⟩, ?_⟩
    exact (su_fr ((Fr.of_below (F := fun _ => False) HL.out).alloc _) (fun h => absurd h (Nat.lt_irrefl _)) _ _ _ _ _).none_below
  | some t =>
    simp only [openV]
    have hsc := cell_blk (blk_alloc (o' := Obj.cells #[.string (bstr t)] 9) HS.out)
    by_cases hq0 : q = 0
    · subst hq0
      go_wp2_with fail
      have ha := blk_alloc (o' := Obj.cells #[.int .u32 (E : Int), .int .i64 0, .int .i64 0, .int .i64 0, .int .u32 0] 69) (blk_new (w := w3) (o := Obj.cells #[.string (bstr t)] 9) rfl)
      have hb : ((w3.alloc (Obj.cells #[.string (bstr t)] 9)).alloc (Obj.cells #[.int .u32 (E : Int), .int .i64 0, .int .i64 0, .int .i64 0, .int .u32 0] 69)).heap[w3.heap.size + 1]? = some (suObj ⟨E, 0, 0, 0, 0⟩) := blk_new (by simp)
      have hR := blk_alloc (o' := Obj.cells #[.int .u32 (E : Int), .int .i64 0, .int .i64 0, .int .i64 0, .int .u32 0] 69) (blk_alloc (o' := Obj.cells #[.string (bstr t)] 9) HR.out)
      have hL : Below w.heap.size w ((w3.alloc (Obj.cells #[.string (bstr t)] 9)).alloc (Obj.cells #[.int .u32 (E : Int), .int .i64 0, .int .i64 0, .int .i64 0, .int .u32 0] 69)) := (HL.out.alloc (by omega) _).alloc (by simp; omega) _
      have hz4 : ((w3.alloc (Obj.cells #[.string (bstr t)] 9)).alloc (Obj.cells #[.int .u32 (E : Int), .int .i64 0, .int .i64 0, .int .i64 0, .int .u32 0] 69)).heap.size = w3.heap.size + 1 + 1 := by simp
      generalize (w3.alloc (Obj.cells #[.string (bstr t)] 9)).alloc (Obj.cells #[.int .u32 (E : Int), .int .i64 0, .int .i64 0, .int .i64 0, .int .u32 0] 69) = w4 at *
      refine (guard_any 202 #[] #[.pointer (some ⟨w3.heap.size, 0, none⟩), .pointer (some ⟨w3.heap.size + 1, 0, none⟩)] (enters_parse _ _) w4 (ParseIn (w3.heap.size + 1) E t (w4.alloc (.cells #[.int .i64 0] 29))) ?_).mono ?_
      · refine (parse_in w3.heap.size (w3.heap.size + 1) E t (by have := HLen.out t rfl; omega) (w4.alloc (.cells #[.int .i64 0] 29)) (blk_alloc ha) (blk_alloc hb) (by omega)).mono ?_
        rintro e w5 h
        refine ⟨?_, h⟩
        have hf : Fr (fun k => k = w3.heap.size + 1) (w4.alloc (.cells #[.int .i64 0] 29)) w5 := by
          rcases h with ⟨_, h⟩ | ⟨n, _, h⟩ <;> exact h.1
        exact hf.blk (blk_alloc_new _ _) (by omega)
      · rintro e w6 ⟨o, w5, rfl, ⟨hf, hcase⟩, hF⟩
        have hR5 := hF.blk (hf.blk (blk_alloc (o' := .cells #[.int .i64 0] 29) hR) (by omega)) (by omega)
        have hL5 : Below w.heap.size w w6 := (hL.alloc (by omega) (.cells #[.int .i64 0] 29)).trans ((hf.below (B := w.heap.size) (fun x _ e => by omega) (by simp; omega)).trans (hF.below (fun x _ e => by omega) (by have := hf.size; simp at this; omega)))
        have HR6 := Lib.hid hR5
        have HL6 := Lib.hid hL5
        have hz6 : w3.heap.size + 1 + 1 < w6.heap.size := by have := hf.size; have := hF.size; simp at *; omega
        clear hR hL HR HL ha hb hsc
        rcases hcase with ⟨rfl, s, hts, hbs⟩ | ⟨hn0, hn1, hts, s, hbs⟩
        · have hbs := hF.blk hbs (by omega)
          clear hf hF hR5 hL5
          have hck := fun W => super_check s n HN.out W
          simp only [SU.v] at hck
          have HCk := Lib.hid hck
          have hc := cell_blk hbs
          clear hck
          go_wp2_with fail
          refine wp_region_perm 10 (fun w' => ∀ i, w'.cell? ⟨w3.heap.size + 1, i, none⟩ = #[.int .u32 (s.epoch : Int), .int .i64 s.journal, .int .i64 s.bits, .int .i64 (s.head : Int), .int .u32 (s.next : Int)][i]?) [(0, true), (1, true), (2, true), (3, true), (4, true), (5, true), (6, false), (7, true), (8, true), (9, false)] (by kernel_rfl) (by kernel_rfl) ?_ (by intro c a d v w h; cases d <;> exact h) ?_
          · exact hc
          simp only [pickOps, List.getElem?_cons_succ, List.getElem?_cons_zero, List.map_cons, List.map_nil, List.drop_succ_cons, List.drop_zero]
          repeat (first | ((with_reducible refine wpMix_read ?_ (fun K hK => ?_)); (focus rfl); apply Exists.intro; refine ⟨fun w' hS => ?_, ?_⟩; (focus (try dsimp only at hS; go_simp; try rfl)); go_simp; refine hK _ ?_; clear hK K) | ((with_reducible refine wpMix_yes ?_ (fun K hK => ?_)); (focus (first | (go_simp; done) | (go_simp; simp; done) | (go_simp; intro h; cases h; done))); apply Exists.intro; refine ⟨fun w' hS => ?_, ?_⟩; (focus (try dsimp only at hS; go_simp; try rfl)); go_simp; refine hK _ ?_; clear hK K) | ((with_reducible refine wpMix_no ?_ (fun K hK => ?_)); (focus (first | (go_simp; done) | (go_simp; simp; done) | (go_simp; intro h; cases h; done))); go_simp; refine hK _ ?_; clear hK K) | ((with_reducible refine wpMix_do (fun K hK => ?_)); go_simp; refine hK _ _ (by first | assumption | exact hc) ?_; clear hK K))
          (with_reducible refine wpMix_do (fun K hK => ?_)); go_simp
          refine (HCk.out _).mono ?_
          rintro e w7 ⟨rfl, hb7⟩
          have hz7 := hb7.size
          have hb7 : Below w6.heap.size w6 w7 := ((Below.refl w6.heap.size w6).drew).trans hb7
          have HRz := Lib.hid (blk_below HR6.out hb7 (by omega))
          have HLz := Lib.hid (HL6.out.trans (hb7.mono (by omega)))
          have HBs := Lib.hid (blk_below hbs hb7 (by omega))
          have hc := cell_blk HBs.out
          refine hK _ _ hc ?_; clear hK K hb7 hbs
          have hpar := HPar.out.trans (if_pos trivial)
          rw [hts] at hpar
          have HP := Lib.hid hpar
          clear hpar hts
          by_cases hk : suCheck s n = 0
          · rw [hk]
            have HK := Lib.hid hk
            clear hk
            repeat (first | ((with_reducible refine wpMix_read ?_ (fun K hK => ?_)); (focus rfl); apply Exists.intro; refine ⟨fun w' hS => ?_, ?_⟩; (focus (try dsimp only at hS; go_simp; try rfl)); go_simp; refine hK _ ?_; clear hK K) | ((with_reducible refine wpMix_yes ?_ (fun K hK => ?_)); (focus (first | (go_simp; done) | (go_simp; simp; done) | (go_simp; intro h; cases h; done))); apply Exists.intro; refine ⟨fun w' hS => ?_, ?_⟩; (focus (try dsimp only at hS; go_simp; try rfl)); go_simp; refine hK _ ?_; clear hK K) | ((with_reducible refine wpMix_no ?_ (fun K hK => ?_)); (focus (first | (go_simp; done) | (go_simp; simp; done) | (go_simp; intro h; cases h; done))); go_simp; refine hK _ ?_; clear hK K) | ((with_reducible refine wpMix_do (fun K hK => ?_)); go_simp; refine hK _ _ (by first | assumption | exact hc) ?_; clear hK K))
            have hcR := cell_blk HRz.out
            have hfR := frozen_blk HRz.out
            (with_reducible refine wpMix_do (fun K hK => ?_)); go_simp
            refine hK _ _ (cell_blk (su_far (c := w.heap.size) HBs.out (by omega) _ _ _ _ _)) ?_; clear hK K
            refine wpMix_nil ?_
            go_wp2_with fail
            have hcf := cell_blk (su_set HRz.out (.int .u32 (s.epoch : Int)) (.int .i64 s.journal) (.int .i64 s.bits) (.int .i64 (s.head : Int)) (.int .u32 (s.next : Int)))
            refine bodyPost_ret (v := .tuple #[SU.v s, .bool true]) (by simp [results, Tryz.results156, go_sem, hcf, SU.v]) rfl ⟨⟨s, true, rfl, .inl ⟨rfl, HP.out.trans (if_pos HK.out)⟩⟩, ?_⟩
            exact (su_fr (Fr.of_below (F := fun _ => False) HLz.out) (fun h => absurd h (Nat.lt_irrefl _)) _ _ _ _ _).none_below
          · have hkb : (suCheck s n == 0) = false := by simpa using hk
            have HK := Lib.hid hk
            clear hk
            repeat (first | ((with_reducible refine wpMix_read ?_ (fun K hK => ?_)); (focus rfl); apply Exists.intro; refine ⟨fun w' hS => ?_, ?_⟩; (focus (try dsimp only at hS; go_simp; try rfl)); go_simp; refine hK _ ?_; clear hK K) | ((with_reducible refine wpMix_yes ?_ (fun K hK => ?_)); (focus (first | (go_simp; done) | (go_simp; simp; done) | (go_simp; intro h; cases h; done))); apply Exists.intro; refine ⟨fun w' hS => ?_, ?_⟩; (focus (try dsimp only at hS; go_simp; try rfl)); go_simp; refine hK _ ?_; clear hK K) | ((with_reducible refine wpMix_no ?_ (fun K hK => ?_)); (focus (first | (go_simp; done) | (go_simp; simp; done) | (go_simp; intro h; cases h; done))); go_simp; refine hK _ ?_; clear hK K) | ((with_reducible refine wpMix_do (fun K hK => ?_)); go_simp; refine hK _ _ (by first | assumption | exact hc) ?_; clear hK K))
            have hcR := cell_blk HRz.out
            have hfR := frozen_blk HRz.out
            (with_reducible refine wpMix_do (fun K hK => ?_)); go_simp
            refine hK _ _ (cell_blk (su_far (c := w.heap.size) HBs.out (by omega) _ _ _ _ _)) ?_; clear hK K
            refine wpMix_nil ?_
            go_wp2_with fail
            have hcf := cell_blk (su_set HRz.out (.int .u32 (s.epoch : Int)) (.int .i64 s.journal) (.int .i64 s.bits) (.int .i64 (s.head : Int)) (.int .u32 (s.next : Int)))
            refine bodyPost_ret (v := .tuple #[SU.v s, .bool false]) (by simp [results, Tryz.results156, go_sem, hcf, SU.v]) rfl ⟨⟨s, false, rfl, .inr ⟨rfl, HP.out.trans (if_neg HK.out)⟩⟩, ?_⟩
            exact (su_fr (Fr.of_below (F := fun _ => False) HLz.out) (fun h => absurd h (Nat.lt_irrefl _)) _ _ _ _ _).none_below
        · have hbs := hF.blk hbs (by omega)
          clear hf hF hR5 hL5
          obtain ⟨k, hok⟩ : ∃ k, o = some k := Option.ne_none_iff_exists'.1 hn0
          subst hok
          have hk0 : (k == 0) = false := by
            have : k ≠ 0 := fun h => hn1 (by rw [h])
            simpa using this
          have hc := cell_blk hbs
          have hpar := HPar.out.trans (if_pos trivial)
          rw [hts] at hpar
          have HP := Lib.hid hpar
          clear hpar hts hn0 hn1
          simp only [Option.getD_some]
          go_wp2_with fail
          refine wp_region_perm 10 (fun w' => ∀ i, w'.cell? ⟨w3.heap.size + 1, i, none⟩ = #[.int .u32 (s.epoch : Int), .int .i64 s.journal, .int .i64 s.bits, .int .i64 (s.head : Int), .int .u32 (s.next : Int)][i]?) [(0, true), (1, true), (2, true), (3, true), (4, true), (5, true), (6, false), (7, true), (8, true), (9, false)] (by kernel_rfl) (by kernel_rfl) ?_ (by intro c a d v w h; cases d <;> exact h) ?_
          · exact hc
          simp only [pickOps, List.getElem?_cons_succ, List.getElem?_cons_zero, List.map_cons, List.map_nil, List.drop_succ_cons, List.drop_zero]
          repeat (first | ((with_reducible refine wpMix_read ?_ (fun K hK => ?_)); (focus rfl); apply Exists.intro; refine ⟨fun w' hS => ?_, ?_⟩; (focus (try dsimp only at hS; go_simp; try rfl)); go_simp; refine hK _ ?_; clear hK K) | ((with_reducible refine wpMix_yes ?_ (fun K hK => ?_)); (focus (first | (go_simp; done) | (go_simp; simp; done) | (go_simp; intro h; cases h; done))); apply Exists.intro; refine ⟨fun w' hS => ?_, ?_⟩; (focus (try dsimp only at hS; go_simp; try rfl)); go_simp; refine hK _ ?_; clear hK K) | ((with_reducible refine wpMix_no ?_ (fun K hK => ?_)); (focus (first | (go_simp; done) | (go_simp; simp; done) | (go_simp; intro h; cases h; done))); go_simp; refine hK _ ?_; clear hK K) | ((with_reducible refine wpMix_do (fun K hK => ?_)); go_simp; refine hK _ _ (by first | assumption | exact hc) ?_; clear hK K))
          have HRz := Lib.hid (blk_drew HR6.out)
          have HLz := Lib.hid HL6.out.drew
          have hcR := cell_blk HR6.out
          have hfR := frozen_blk HR6.out
          (with_reducible refine wpMix_do (fun K hK => ?_)); go_simp
          refine hK _ _ (cell_blk (su_far (c := w.heap.size) (blk_drew hbs) (by omega) _ _ _ _ _)) ?_; clear hK K
          refine wpMix_nil ?_
          go_wp2_with fail
          have hcf := cell_blk (su_set HR6.out (.int .u32 (s.epoch : Int)) (.int .i64 s.journal) (.int .i64 s.bits) (.int .i64 (s.head : Int)) (.int .u32 (s.next : Int)))
          refine bodyPost_ret (v := .tuple #[SU.v s, .bool false]) (by simp [results, Tryz.results156, go_sem, hcf, SU.v]) rfl ⟨⟨s, false, rfl, .inr ⟨rfl, HP.out⟩⟩, ?_⟩
          exact (Fr.drew (su_fr (Fr.of_below (F := fun _ => False) HL6.out) (fun h => absurd h (Nat.lt_irrefl _)) _ _ _ _ _)).none_below
    · have hqq : ((q : Int) != 0) = true := by simp; omega
      have HQ := Lib.hid hq0
      clear hq0
      have hR := HR.out
      have hr2 := cell_blk (blk_alloc (o' := Obj.cells #[.string (bstr t)] 9) hR)
      have hf2 := frozen_blk (blk_alloc (o' := Obj.cells #[.string (bstr t)] 9) hR)
      clear hR
      go_wp2_with fail
      have hcf := cell_blk (su_set (blk_alloc (o' := Obj.cells #[.string (bstr t)] 9) HR.out) (.int .u32 0) (.int .i64 0) (.int .i64 0) (.int .i64 0) (.int .u32 0))
      refine bodyPost_ret (v := .tuple #[SU.v zeroSU, .bool false]) (by simp [results, Tryz.results156, go_sem, hcf, SU.v]) rfl ⟨⟨zeroSU, false, rfl, .inr ⟨rfl, HPar.out.trans (if_neg HQ.out)⟩⟩, ?_⟩
      exact (su_fr ((Fr.of_below (F := fun _ => False) HL.out).alloc _) (fun h => absurd h (Nat.lt_irrefl _)) _ _ _ _ _).none_below
end Go.Proofs.YtajojhfialbfkaaGreatDoor
