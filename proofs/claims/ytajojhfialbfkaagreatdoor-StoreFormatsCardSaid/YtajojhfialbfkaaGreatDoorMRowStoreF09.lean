/- Layers 12, 14, 15, 16: what New makes; a catalog without entries. -/
import Derived.Test.YtajojhfialbfkaaGreatDoorMRowStoreF08
namespace Go.Proofs.YtajojhfialbfkaaGreatDoor
open Go.RowKit
set_option maxRecDepth 100000

theorem extent_new (h : Nat) (b : Nat) (hb : 1 ≤ b ∧ b ≤ 256) (w : World) :
    Calls Tryz.prog 75 #[.pointer (some ⟨h, 0, none⟩), .int .i64 (b : Int)] w fun e w' =>
      e = .returned (.pointer (some ⟨w.heap.size + 1, 0, none⟩)) ∧ (w.alloc (.map #[] 0)).alloc (.cells #[.pointer (some ⟨h, 0, none⟩), .int .i64 (b : Int), .map (some w.heap.size)] 208) = w' := by
  have hmk := fun W => run_makeMap_none (P := Tryz.prog) 206 _ _ Tryz.underlying206 W
  have e1 : min (max (b : Int) 1) 256 = (b : Int) := by omega
  clear hb
  go_enter Tryz.func75, Tryz.ntmps75
  go_wp2_with fail
  go_ret
  exact ⟨rfl, rfl⟩

theorem radix_new (h x : Nat) (w : World) :
    Calls Tryz.prog 74 #[.pointer (some ⟨h, 0, none⟩), .pointer (some ⟨x, 0, none⟩)] w fun e w' =>
      e = .returned (.pointer (some ⟨w.heap.size, 0, none⟩)) ∧ w.alloc (.cells #[.pointer (some ⟨h, 0, none⟩), .pointer (some ⟨x, 0, none⟩)] 205) = w' := by
  go_enter Tryz.func74, Tryz.ntmps74
  go_wp2_with fail
  go_ret
  exact ⟨rfl, rfl⟩

/-- The blocks of a core: itself, its maps, its extents, their table, its volumes. -/
structure CB where
  c : Nat
  r : Nat
  x : Nat
  ix : Nat
  l : Nat

/-- A core's own cells (the heap at h). -/
structure CoreIs (w : World) (C : CB) (h : Nat) (bits next epoch : Nat) (vols : Nat → Option EN) : Prop where
  hc : w.heap[C.c]? = some (.cells #[.pointer (some ⟨h, 0, none⟩), .pointer (some ⟨C.r, 0, none⟩), .map (some C.l), .int .u32 (next : Int), .int .u32 (epoch : Int)] 79 (0, 0))
  hr : w.heap[C.r]? = some (.cells #[.pointer (some ⟨h, 0, none⟩), .pointer (some ⟨C.x, 0, none⟩)] 205 (0, 0))
  hx : w.heap[C.x]? = some (.cells #[.pointer (some ⟨h, 0, none⟩), .int .i64 (bits : Int), .map (some C.ix)] 208 (0, 0))
  vols : MapIs uk ev ukOk w C.l vols

theorem core_new (h b n : Nat) (hb : 1 ≤ b ∧ b ≤ 256) (hn : 1 ≤ n ∧ n < 4294967296) (w : World) :
    Calls Tryz.prog 26 #[.pointer (some ⟨h, 0, none⟩), .int .i64 (b : Int), .int .u32 (n : Int)] w fun e w' =>
      ∃ C : CB, e = .returned (.pointer (some ⟨C.c, 0, none⟩)) ∧ CoreIs w' C h b n 1 (fun _ => none) ∧ w'.heap[C.ix]? = some (.map #[] 0) ∧ Below w.heap.size w w' ∧ w.heap.size ≤ C.ix ∧ C.ix < C.x ∧ C.x < C.r ∧ C.r < C.l ∧ C.l < C.c := by
  have hmk := fun W => run_makeMap_none (P := Tryz.prog) 77 _ _ Tryz.underlying77 W
  have e1 : max (n : Int) 1 = (n : Int) := by omega
  have HB := Lib.hid hb
  clear hb hn
  go_enter Tryz.func26, Tryz.ntmps26
  go_wp2_with fail
  refine (extent_new h b HB.out w).mono ?_
  rintro e w1 ⟨rfl, rfl⟩
  have i0 := blk_alloc (o' := .cells #[.pointer (some ⟨h, 0, none⟩), .int .i64 (b : Int), .map (some w.heap.size)] 208) (blk_new (w := w) (o := .map #[] 0) rfl)
  have x0 := blk_new (o := .cells #[.pointer (some ⟨h, 0, none⟩), .int .i64 (b : Int), .map (some w.heap.size)] 208) (size_alloc (w := w) (o := .map #[] 0) rfl)
  have hz := size_alloc (o := .cells #[.pointer (some ⟨h, 0, none⟩), .int .i64 (b : Int), .map (some w.heap.size)] 208) (size_alloc (w := w) (o := .map #[] 0) rfl)
  have hL : Below w.heap.size w ((w.alloc (.map #[] 0)).alloc (.cells #[.pointer (some ⟨h, 0, none⟩), .int .i64 (b : Int), .map (some w.heap.size)] 208)) := ((Below.refl _ w).alloc (Nat.le_refl _) _).alloc (by simp) _
  generalize (w.alloc (.map #[] 0)).alloc (.cells #[.pointer (some ⟨h, 0, none⟩), .int .i64 (b : Int), .map (some w.heap.size)] 208) = w1 at *
  have I0 := Lib.hid i0
  have X0 := Lib.hid x0
  have HL := Lib.hid hL
  clear i0 x0 hL
  go_wp2_with fail
  refine (radix_new h (w.heap.size + 1) w1).mono ?_
  rintro e w2 ⟨rfl, rfl⟩
  have r0 := blk_new (o := .cells #[.pointer (some ⟨h, 0, none⟩), .pointer (some ⟨w.heap.size + 1, 0, none⟩)] 205) hz
  have hz2 := size_alloc (o := .cells #[.pointer (some ⟨h, 0, none⟩), .pointer (some ⟨w.heap.size + 1, 0, none⟩)] 205) hz
  have I1 := Lib.hid (blk_alloc (o' := .cells #[.pointer (some ⟨h, 0, none⟩), .pointer (some ⟨w.heap.size + 1, 0, none⟩)] 205) I0.out)
  have X1 := Lib.hid (blk_alloc (o' := .cells #[.pointer (some ⟨h, 0, none⟩), .pointer (some ⟨w.heap.size + 1, 0, none⟩)] 205) X0.out)
  have HL1 := Lib.hid (HL.out.alloc (by omega) (.cells #[.pointer (some ⟨h, 0, none⟩), .pointer (some ⟨w.heap.size + 1, 0, none⟩)] 205))
  rw [hz]
  generalize w1.alloc (.cells #[.pointer (some ⟨h, 0, none⟩), .pointer (some ⟨w.heap.size + 1, 0, none⟩)] 205) = w2 at *
  have R1 := Lib.hid r0
  clear r0
  go_wp2_with fail
  go_ret
  have hz3 := size_alloc (o := .map #[] 0) hz2
  have hmn := mapIs_new (ke := uk) (ve := ev) (ok := ukOk) w2
  rw [hz2] at hmn
  refine ⟨⟨w.heap.size + 1 + 1 + 1 + 1, w.heap.size + 1 + 1, w.heap.size + 1, w.heap.size, w.heap.size + 1 + 1 + 1⟩, rfl, ⟨?_, blk_alloc (blk_alloc R1.out), blk_alloc (blk_alloc X1.out), ?_⟩, blk_alloc (blk_alloc I1.out), ?_, Nat.le_refl _, by simp only; omega, by simp only; omega, by simp only; omega, by simp only; omega⟩
  · exact blk_new hz3
  · exact hmn.fr ((Fr.refl (fun _ => False) _).alloc _) (fun h => h)
  · exact (HL1.out.alloc (by omega) _).alloc (by rw [hz3]; omega) _
end Go.Proofs.YtajojhfialbfkaaGreatDoor
/- Layers 15, 16: a catalog without entries. -/
namespace Go.Proofs.YtajojhfialbfkaaGreatDoor
open Go.RowKit
set_option maxRecDepth 100000

theorem each_none (f : FuncId) (cap : Array Value) (w : World) :
    Calls Tryz.prog 158 #[.int .i64 0, cl f cap] w fun e w' => e = unit0 ∧ w = w' := by
  go_enter Tryz.func158, Tryz.ntmps158
  go_wp2_with fail
  refine wp_loop_rounds 1 ?_
  rw [rounds_succ]
  go_wp2_with fail
  go_end0
  exact ⟨rfl, rfl⟩

theorem catalog_adopt_none (h : Nat) (w : World) :
    Calls Tryz.prog 113 #[.pointer (some ⟨h, 0, none⟩), .int .i64 0] w fun e w' => e = .returned (.slice none 0 0) ∧ Below w.heap.size w w' := by
  go_enter Tryz.func113, Tryz.ntmps113
  go_wp2_with fail
  refine (each_none _ _ _).mono ?_
  rintro e w' ⟨rfl, rfl⟩
  go_wp2_with fail
  go_ret
  exact ⟨rfl, (((Below.refl _ w).alloc (Nat.le_refl _) _).alloc (by simp) _).alloc (by simp; omega) _⟩

theorem catalog_drop_none (h : Nat) (w : World) :
    Calls Tryz.prog 153 #[.pointer (some ⟨h, 0, none⟩), .int .i64 0] w fun e w' => e = unit0 ∧ Below w.heap.size w w' := by
  go_enter Tryz.func153, Tryz.ntmps153
  go_wp2_with fail
  refine (each_none _ _ _).mono ?_
  rintro e w' ⟨rfl, rfl⟩
  go_wp2_with fail
  go_end0
  exact ⟨rfl, (Below.refl _ w).alloc (Nat.le_refl _) _⟩

theorem core_adopt_none (c : Nat) (w : World) :
    Calls Tryz.prog 112 #[.pointer (some ⟨c, 0, none⟩), .slice none 0 0] w fun e w' => e = unit0 ∧ w = w' := by
  go_enter Tryz.func112, Tryz.ntmps112
  go_wp2_with fail
  refine wp_loop_rounds 1 ?_
  rw [rounds_succ]
  go_wp2_with fail
  go_end0
  exact ⟨rfl, rfl⟩

theorem core_epoch {w : World} {C : CB} {h bits next epoch : Nat} {vols : Nat → Option EN} (H : CoreIs w C h bits next epoch vols) (hcr : C.c ≠ C.r) (hcx : C.c ≠ C.x) (hcl : C.c ≠ C.l) (n : Nat) :
    Calls Tryz.prog 34 #[.pointer (some ⟨C.c, 0, none⟩), .int .u32 (n : Int)] w fun e w' => e = unit0 ∧ CoreIs w' C h bits next n vols ∧ Fr (fun k => k = C.c) w w' := by
  have hc := cell_blk H.hc
  have hf := frozen_blk H.hc
  have HH := Lib.hid H
  clear H
  go_enter Tryz.func34, Tryz.ntmps34
  go_wp2_with fail
  go_end0
  have H := HH.out
  have hF := (Fr.refl (fun k => k = C.c) w).setCell (p := ⟨C.c, 4, none⟩) (fun _ => rfl) (.int .u32 (n : Int))
  have hb := blk_set (i := 4) (v := .int .u32 (n : Int)) H.hc
  simp only [List.setIfInBounds_toArray, List.set_cons_zero, List.set_cons_succ] at hb
  exact ⟨rfl, ⟨hb, hF.blk H.hr (fun e => hcr e.symm), hF.blk H.hx (fun e => hcx e.symm), H.vols.fr hF (fun e => hcl e.symm)⟩, hF⟩
end Go.Proofs.YtajojhfialbfkaaGreatDoor
/- Layer 18: Open, where there are no volumes. -/
namespace Go.Proofs.YtajojhfialbfkaaGreatDoor
open Go.RowKit
set_option maxRecDepth 100000

theorem HW.fr0 {w w' : World} {B : HB} {S : HS} {yg : Nat} {F : Nat → Prop} (h : HW w B S yg (.slice none 0 0) (.slice none 0 0) 0 []) (hf : Fr F w w') (hn : ∀ k, HF B yg (.slice none 0 0) k → ¬ F k) : HW w' B S yg (.slice none 0 0) (.slice none 0 0) 0 [] := by
  have m : ∀ k, k ∈ [B.h, B.d, B.db, B.m, B.mb, B.rf, yg, B.g] → ¬ F k := fun k hk => hn k (.inl hk)
  refine ⟨hf.blk h.hh (m _ (by simp)), ?_, ?_, h.refs.fr hf (m _ (by simp)), h.young.fr hf (m _ (by simp)), ownsRow_fr h.gone hf (fun k hk => (by cases hk)), ?_, h.apart, h.lapart, h.gapart, fun s hs => (by cases hs)⟩
  · refine h.disk.fr hf ?_
    rintro k (rfl | hk)
    · exact m _ (by simp)
    · injection hk with hk; subst hk; exact m _ (by simp)
  · refine h.gr.fr hf ?_
    rintro k (rfl | hk)
    · exact m _ (by simp)
    · injection hk with hk; subst hk; exact m _ (by simp)
  · refine h.log.fr hf ?_
    rintro k (rfl | hk)
    · exact m _ (by simp)
    · cases hk

/-- A store's cells. -/
abbrev storeObj (c d : Nat) (s : SU) : Obj := .cells #[.pointer (some ⟨c, 0, none⟩), .pointer (some ⟨d, 0, none⟩), .int .u32 (s.epoch : Int), .int .i64 s.journal, .int .i64 s.bits, .int .i64 (s.head : Int), .int .u32 (s.next : Int)] 71 (0, 0)

/-- A store without volumes, just opened. -/
structure Opened (w : World) (d : Nat) (sv : Value) (D : DS) (s : SU) (e : Ending) (w' : World) : Prop where
  all : ∃ t B yg C, e = .returned (.pointer (some ⟨t, 0, none⟩)) ∧ w'.heap[t]? = some (storeObj C.c d s) ∧ B.d = d ∧ HW w' B (HS.fresh D (2 + s.journal).toNat) yg (.slice none 0 0) (.slice none 0 0) 0 [] ∧
    CoreIs w' C B.h s.bits.toNat s.next s.epoch (fun _ => none) ∧ w'.heap[C.ix]? = some (.map #[] 0) ∧
    (∀ k, HF B yg (.slice none 0 0) k → k < C.ix) ∧ C.ix < C.x ∧ C.x < C.r ∧ C.r < C.l ∧ C.l < C.c ∧ C.c < t ∧ B.dsv (HS.fresh D (2 + s.journal).toNat) = sv ∧ (∀ k, HF B yg (.slice none 0 0) k → k = d ∨ sv.ownBlock = some k ∨ w.heap.size ≤ k) ∧ w.heap.size ≤ C.ix
  bel : Below w.heap.size w w'

set_option maxHeartbeats 2000000 in
theorem store_open0 {w : World} {d : Nat} {sv : Value} {D : DS} (h : DiskAt w d sv D) (hc : D.calm) (hwh : D.whole) (hn : D.l.length ≤ 4096) (s : SU) (hs : readTo D (min 2 D.l.length) = s) (hck : suCheck s D.l.length = 0) (h0 : s.head = 0) (hnx : s.next < 4294967296) :
    Calls Tryz.prog 52 #[.pointer (some ⟨d, 0, none⟩)] w (Opened w d sv D s) := by
  have hrd := super_read h hc.2.1 hwh hn
  rw [hs] at hrd
  have q := suCheck_zero hck
  obtain ⟨E, j, b, hd, nx⟩ := s
  simp only at h0 hnx
  subst h0
  have q4 := q.1
  unfold suBad at q4
  simp only [Bool.or_eq_false_iff, decide_eq_false_iff_not] at q4
  have q5 : 2 + j + 32 ≤ (D.l.length : Int) := q.2.2
  obtain ⟨b', hb'⟩ : ∃ b' : Nat, b = (b' : Int) := ⟨b.toNat, by omega⟩
  subst hb'
  obtain ⟨J, hJ⟩ : ∃ J : Nat, 2 + j = (J : Int) := ⟨(2 + j).toNat, by omega⟩
  have hhp := fun W => super_heap ⟨E, j, (b' : Int), 0, nx⟩ (by simp only; omega) W
  simp only [SU.v] at hrd hhp
  have HRd := Lib.hid hrd
  have HHp := Lib.hid hhp
  have H := Lib.hid h
  have HN := Lib.hid hn
  have HE0 := Lib.hid (show E ≠ 0 by omega)
  have HJl := Lib.hid (show J < D.l.length by omega)
  have HJ := Lib.hid hJ
  have HBb := Lib.hid (show 1 ≤ b' ∧ b' ≤ 256 by omega)
  have HNx := Lib.hid (show 1 ≤ nx ∧ nx < 4294967296 by omega)
  clear hrd hhp h hc hwh hn hs hck hnx q q4 q5 hJ
  go_enter Tryz.func52, Tryz.ntmps52
  go_wp2_with fail
  refine HRd.out.mono ?_
  rintro e w1 ⟨⟨rfl, -⟩ | ⟨rfl, hz⟩, hb1⟩
  · have hz1 := hb1.size
    have HB1 := Lib.hid hb1
    clear hb1
    go_wp2_with fail
    have hs0 := blk_new (w := w1) (o := (Obj.cells #[.int .u32 (E : Int), .int .i64 j, .int .i64 (b' : Int), .int .i64 0, .int .u32 (nx : Int)] 69)) rfl
    have hL2 := HB1.out.alloc hz1 (Obj.cells #[.int .u32 (E : Int), .int .i64 j, .int .i64 (b' : Int), .int .i64 0, .int .u32 (nx : Int)] 69)
    have hz2 := size_alloc (w := w1) (o := (Obj.cells #[.int .u32 (E : Int), .int .i64 j, .int .i64 (b' : Int), .int .i64 0, .int .u32 (nx : Int)] 69)) rfl
    generalize w1.alloc (Obj.cells #[.int .u32 (E : Int), .int .i64 j, .int .i64 (b' : Int), .int .i64 0, .int .u32 (nx : Int)] 69) = w2 at *
    refine (HHp.out w2).mono ?_
    rintro e w3 ⟨rfl, hb3⟩
    have hz3 := hb3.size
    have HS3 := Lib.hid (blk_below hs0 hb3 (by omega))
    have HL3 := Lib.hid (hL2.trans (hb3.mono (by omega)))
    clear hs0 hL2 hb3
    simp only [HJ.out]
    go_wp2_with fail
    refine (heap_new (H.out.fr (Fr.of_below (F := fun _ => False) HL3.out) (fun _ _ h => h)) J HJl.out HN.out).mono ?_
    rintro e w4 ⟨B, yg, rfl, hBd, hBs, hW, hb4, hge⟩
    have hz4 := hb4.size
    have hS4 := blk_below HS3.out hb4 (by omega)
    have HS4 := Lib.hid hS4
    have HL4 := Lib.hid (HL3.out.trans (hb4.mono (by omega)))
    have HW4 := Lib.hid hW
    have HBd := Lib.hid (And.intro hBd hBs)
    have hc4 := cell_blk hS4
    have hw3 : w.heap.size ≤ w3.heap.size := by have := HL3.out.size; omega
    have HGe := Lib.hid (show ∀ k, HF B yg (.slice none 0 0) k → k = d ∨ sv.ownBlock = some k ∨ w.heap.size ≤ k from fun k hk => (hge k hk).imp_right (fun f => f.imp_right (fun f => by omega)))
    clear hW hb4 hge hBd hBs hS4
    go_wp2_with fail
    refine (core_new B.h b' nx HBb.out HNx.out w4).mono ?_
    rintro e w5 ⟨C, rfl, hC, hix, hb5, g1, g2, g3, g4, g5⟩
    have hz5 := hb5.size
    have hS5 := blk_below HS4.out hb5 (by omega)
    have HS5 := Lib.hid hS5
    have HL5 := Lib.hid (HL4.out.trans (hb5.mono (by omega)))
    have HW5 := Lib.hid (HW4.out.fr (Fr.of_below (F := fun _ => False) hb5) (fun _ _ h => h))
    have HC5 := Lib.hid hC
    have HI5 := Lib.hid hix
    have hlt4 := Lib.hid HW4.out.lt
    have hc5 := cell_blk hS5
    clear hC hix hb5 hS5 hc4
    go_wp2_with fail
    refine (catalog_adopt_none B.h w5).mono ?_
    rintro e w6 ⟨rfl, hb6⟩
    have hz6 := hb6.size
    have hCl := lt_of_blk HC5.out.hc
    go_wp2_with fail
    refine (core_adopt_none C.c w6).mono ?_
    rintro e w7 ⟨rfl, rfl⟩
    have HF6 := Lib.hid (Fr.of_below (F := fun _ => False) hb6)
    have HS6 := Lib.hid (blk_below HS5.out hb6 (by omega))
    have HL6 := Lib.hid (HL5.out.trans (hb6.mono (by omega)))
    have HW6 := Lib.hid (HW5.out.fr HF6.out (fun _ _ h => h))
    have hC6 : CoreIs w6 C B.h b' nx 1 (fun _ => none) := ⟨HF6.out.blk HC5.out.hc (fun h => h), HF6.out.blk HC5.out.hr (fun h => h), HF6.out.blk HC5.out.hx (fun h => h), HC5.out.vols.fr HF6.out (fun h => h)⟩
    have HC6 := Lib.hid hC6
    have HI6 := Lib.hid (HF6.out.blk HI5.out (fun h => h))
    have hc6 := cell_blk HS6.out
    clear hC6 hb6 hc5
    go_wp2_with fail
    refine (core_epoch HC6.out (by omega) (by omega) (by omega) E).mono ?_
    rintro e w7 ⟨rfl, hC7, hF7⟩
    have hz7 := hF7.size
    have hS7 := hF7.blk HS6.out (by omega)
    have hc7 := cell_blk hS7
    have HS7 := Lib.hid hS7
    have HC7 := Lib.hid hC7
    have HF7 := Lib.hid hF7
    clear hC7 hF7 hS7 hc6
    go_wp2_with fail
    go_ret
    have hJt : (2 + j).toNat = J := by have := HJ.out; omega
    have hltB := hlt4.out
    have hFa : Fr (fun _ => False) w7 (w7.alloc (storeObj C.c d ⟨E, j, (b' : Int), 0, nx⟩)) := (Fr.refl _ w7).alloc _
    have hW7 := HW6.out.fr0 HF7.out (fun k hk e => by have := hltB k hk; omega)
    refine ⟨⟨w7.heap.size, B, yg, C, rfl, blk_alloc_new _ _, HBd.out.1, ?_, ?_, hFa.blk (HF7.out.blk HI6.out (by omega)) (fun h => h), fun k hk => by have := hltB k hk; omega, g2, g3, g4, g5, by omega, ?_⟩, ?_⟩
    · rw [hJt]; exact hW7.fr hFa (fun _ _ h => h)
    · have hC := HC7.out
      exact ⟨hFa.blk hC.hc (fun h => h), hFa.blk hC.hr (fun h => h), hFa.blk hC.hx (fun h => h), hC.vols.fr hFa (fun h => h)⟩
    · rw [hJt]; exact ⟨HBd.out.2, HGe.out, by omega⟩
    · exact (HL6.out.trans (HF7.out.below (fun x _ e => by omega) (by omega))).alloc (by omega) _
  · exact absurd hz HE0.out
end Go.Proofs.YtajojhfialbfkaaGreatDoor
/- Layer 10: the heap: Try, where what runs does not fail. -/
namespace Go.Proofs.YtajojhfialbfkaaGreatDoor
open Go.RowKit
set_option maxRecDepth 100000

section
variable {w w' : World} {B : HB} {S : HS} {yg : Nat} {gv lv : Value} {depth : Nat} {steps : List Step}

/-- Behind the last leave: nothing is remembered. -/
theorem HW.left (h : HW w B S yg gv lv 1 steps) {lv0 : Value} {vals : List Value} (hl : LogAt w B.g lv0 1 vals) (he : LeaveEnd w B.g lv0 0 vals w') :
    HW w' B S yg gv (.slice none 0 0) 0 [] := by
  obtain ⟨⟨lv2, hL, hlv⟩, hF⟩ := he
  have hel : lv0 = lv := by
    have h1 := hl.hg
    rw [h.log.hg] at h1
    injection h1 with h1
    injection h1 with h1
    have := congrArg (fun a => a[0]?) h1
    simpa using this.symm
  subst hel
  rw [if_pos rfl] at hL
  obtain rfl : lv2 = .slice none 0 0 := by
    rcases hlv with rfl | ⟨h0, _⟩
    · rfl
    · exact absurd rfl h0
  have hlv2 : ∀ k, (Value.slice none 0 0).ownBlock = some k → lv0.ownBlock = some k := fun k hk => by cases hk
  obtain ⟨n1, n2, n3, n4⟩ := h.next hF (fun k hk => .inl (by rw [hk]; simp)) (fun k hk => .inl (hlv2 k hk))
  refine ⟨hF.blk h.hh (h.ne 0 7 (by decide) (by decide) (by decide)), ?_, ?_, h.refs.fr hF (h.ne 5 7 (by decide) (by decide) (by decide)), h.young.fr hF (h.ne 6 7 (by decide) (by decide) (by decide)), n4, hL, h.apart, n3, n2, fun s hs => (by cases hs)⟩
  · refine h.disk.fr hF ?_
    rintro k (rfl | hk)
    · exact h.ne 1 7 (by decide) (by decide) (by decide)
    · injection hk with hk; subst hk; exact h.ne 2 7 (by decide) (by decide) (by decide)
  · refine h.gr.fr hF ?_
    rintro k (rfl | hk)
    · exact h.ne 3 7 (by decide) (by decide) (by decide)
    · injection hk with hk; subst hk; exact h.ne 4 7 (by decide) (by decide) (by decide)

/-- Within the first Try. -/
theorem HW.enter (h : HW w B S yg gv lv 0 []) : HW (deeper w B.g 0) B S yg gv lv 1 [] := by
  have hF : Fr (fun k => k = B.g) w (deeper w B.g 0) := (Fr.refl (fun k => k = B.g) w).setCell (p := ⟨B.g, 1, none⟩) (fun _ => rfl) _
  obtain ⟨n1, n2, n3, n4⟩ := h.next hF (fun k hk => .inl (by rw [hk]; simp)) (fun k hk => .inl hk)
  refine ⟨hF.blk h.hh (h.ne 0 7 (by decide) (by decide) (by decide)), ?_, ?_, h.refs.fr hF (h.ne 5 7 (by decide) (by decide) (by decide)), h.young.fr hF (h.ne 6 7 (by decide) (by decide) (by decide)), n4, h.log.deeper, h.apart, n3, n2, fun s hs => (by cases hs)⟩
  · refine h.disk.fr hF ?_
    rintro k (rfl | hk)
    · exact h.ne 1 7 (by decide) (by decide) (by decide)
    · injection hk with hk; subst hk; exact h.ne 2 7 (by decide) (by decide) (by decide)
  · refine h.gr.fr hF ?_
    rintro k (rfl | hk)
    · exact h.ne 3 7 (by decide) (by decide) (by decide)
    · injection hk with hk; subst hk; exact h.ne 4 7 (by decide) (by decide) (by decide)

/-- A box of an error is none of the heap's. -/
theorem HW.fr_err {x : Nat} {v : Value} (h : HW w B S yg gv lv depth steps) (hx : w.heap[x]? = some (.cells #[v] 29 (0, 0))) (hF : Fr (fun k => k = x) w w') : HW w' B S yg gv lv depth steps ∧ ¬ HF B yg lv x := by
  have e0 : B.h ≠ x := ne_blk h.hh hx (by decide)
  have e1 : B.d ≠ x := ne_blk h.disk.hd hx (by decide)
  have e2 : B.db ≠ x := fun e => ownsRow_ne h.disk.row hx (by decide) (by rw [← e]; rfl)
  have e3 : B.m ≠ x := ne_blk h.gr.hm hx (by decide)
  have e4 : B.mb ≠ x := fun e => ownsRow_ne h.gr.row hx (by decide) (by rw [← e]; rfl)
  have e5 : B.rf ≠ x := by
    rintro rfl
    obtain ⟨es, c, hb, _⟩ := h.refs
    rw [hb] at hx; injection hx with hx; cases hx
  have e6 : yg ≠ x := by
    rintro rfl
    obtain ⟨es, c, hb, _⟩ := h.young
    rw [hb] at hx; injection hx with hx; cases hx
  have e7 : B.g ≠ x := ne_blk h.log.hg hx (by decide)
  have e8 : lv.ownBlock ≠ some x := ownsRow_ne h.log.row hx (by decide)
  have e9 : gv.ownBlock ≠ some x := ownsRow_ne h.gone hx (by decide)
  have hnx : ¬ HF B yg lv x := by
    rintro (hm | hm)
    · simp only [List.mem_cons, List.not_mem_nil, or_false] at hm
      rcases hm with e | e | e | e | e | e | e | e
      · exact e0 e.symm
      · exact e1 e.symm
      · exact e2 e.symm
      · exact e3 e.symm
      · exact e4 e.symm
      · exact e5 e.symm
      · exact e6 e.symm
      · exact e7 e.symm
    · exact e8 hm
  have hbx : ∀ s ∈ steps, ∀ p ∈ s.boxes B, p.1 ≠ x := by
    intro s hs p hp e
    have h1 := ((h.steps s hs).box p hp).1
    rw [e, hx] at h1
    injection h1 with h1
    cases s <;> simp only [Step.boxes, List.mem_cons, List.not_mem_nil, or_false] at hp
    · rcases hp with rfl | rfl <;> (injection h1 with _ h1; exact absurd h1 (by decide))
    · rcases hp with rfl | rfl <;> (injection h1 with _ h1; exact absurd h1 (by decide))
    · rcases hp with rfl | rfl <;> (injection h1 with _ h1; exact absurd h1 (by decide))
    · rcases hp with rfl | rfl <;> (injection h1 with _ h1; exact absurd h1 (by decide))
    · rcases hp with rfl | rfl | rfl | rfl <;> (injection h1 with _ h1; exact absurd h1 (by decide))
    · obtain ⟨q, _, rfl⟩ := List.mem_map.1 hp
      injection h1 with _ h1
      obtain ⟨_, _, ty⟩ := q
      have h2 : 29 = ExtTy.ty ty := h1
      clear h1
      revert h2
      cases ty <;> (intro h2; exact absurd h2 (by decide))
  refine ⟨⟨hF.blk h.hh e0, ?_, ?_, h.refs.fr hF e5, h.young.fr hF e6, ownsRow_fr h.gone hF (fun k hk e => e9 (e ▸ hk)), ?_, h.apart, h.lapart, h.gapart, fun s hs => ⟨fun p hp => ⟨hF.blk ((h.steps s hs).box p hp).1 (hbx s hs p hp), ((h.steps s hs).box p hp).2⟩, fun x1 y a c l e => ?_, (h.steps s hs).tab⟩⟩, hnx⟩
  · refine h.disk.fr hF ?_
    rintro k (rfl | hk)
    · exact e1
    · injection hk with hk; subst hk; exact e2
  · refine h.gr.fr hF ?_
    rintro k (rfl | hk)
    · exact e3
    · injection hk with hk; subst hk; exact e4
  · refine h.log.fr hF ?_
    rintro k (rfl | hk)
    · exact e7
    · exact fun e => e8 (e ▸ hk)
  · obtain ⟨h1, h2⟩ := (h.steps s hs).gone x1 y a c l e
    exact ⟨ownsRow_fr h1 hF (fun k hk e => ownsRow_ne h1 hx (by decide) (e ▸ hk)), h2⟩

/-- What a run within the first Try leaves: a heap, of which P. -/
structure RunEnd (B : HB) (yg : Nat) (P : HS → World → Prop) (w : World) : Prop where
  ex : ∃ S gv lv steps, HW w B S yg gv lv 1 steps ∧ P S w ∧ S.G.ok ∧ (∀ a ∈ S.gone, a ≤ 100000) ∧ S.gone.length ≤ 100000

/-- .. and the Try: the world behind the run is known but for the heap's blocks and the box of the error. -/
structure TryDone (B : HB) (yg : Nat) (P : HS → World → Prop) (x : Nat) (w' : World) : Prop where
  ex : ∃ S w2 gv2 lv2 steps2, HW w2 B S yg gv2 lv2 1 steps2 ∧ P S w2 ∧ HW w' B S.free yg (.slice none 0 0) (.slice none 0 0) 0 [] ∧ Fr (fun k => HF B yg lv2 k ∨ k = x) w2 w' ∧ S.free.G.ok

theorem size_deeper (w : World) (g d : Nat) : (deeper w g d).heap.size = w.heap.size := by simp

set_option maxHeartbeats 1000000 in
theorem heap_try_ok (h : HW w B S yg gv lv 0 []) (f : FuncId) (cap : Array Value) (he : Enters f (#[] ++ cap)) (P : HS → World → Prop)
    (hrun : Calls Tryz.prog f (#[] ++ cap) ((deeper w B.g 0).alloc (.cells #[.int .i64 0] 29)) fun e w2 => e = unit0 ∧ w2.heap[w.heap.size]? = some (.cells #[.int .i64 0] 29 (0, 0)) ∧ RunEnd B yg P w2) :
    Calls Tryz.prog 37 #[.pointer (some ⟨B.h, 0, none⟩), cl f cap] w fun e w' => e = .returned (.int .i64 0) ∧ TryDone B yg P w.heap.size w' := by
  have ht := log_try h.log (by decide) (by simp) f cap he
    (fun o w2 => o = none ∧ w2.heap[w.heap.size]? = some (.cells #[.int .i64 0] 29 (0, 0)) ∧ RunEnd B yg P w2)
    (fun o w3 => o = none ∧ ∃ S w2 gv lv steps, HW w2 B S yg gv lv 1 steps ∧ HW w3 B S yg gv lv 1 steps ∧ P S w2 ∧ S.G.ok ∧ (∀ a ∈ S.gone, a ≤ 100000) ∧ S.gone.length ≤ 100000 ∧ Fr (fun k => k = w.heap.size) w2 w3)
    (by
      rw [size_deeper]
      refine hrun.mono ?_
      rintro e w2 ⟨rfl, h1, h4⟩
      exact ⟨h1, .inl ⟨rfl, rfl, h1, h4⟩⟩)
    (by
      rw [size_deeper]
      rintro w2 w3 ⟨-, h3, ⟨S', gv', lv', steps', hW, hP, q1, q2, q3⟩⟩ hF
      exact ⟨rfl, S', w2, gv', lv', steps', hW, (hW.fr_err h3 hF).1, hP, q1, q2, q3, hF⟩)
    (by
      rintro n w2 w3 ⟨h1, _⟩
      cases h1)
    (by
      rintro o w4 ⟨-, S', w2, gv', lv', steps', _, hW, _⟩
      exact ⟨lv', _, hW.log⟩)
  obtain ⟨ga, gn, gc, rfl, _, _⟩ : ∃ ga gn gc, gv = .slice ga gn gc ∧ True ∧ True := by
    obtain ⟨ao, cap, e, _, _⟩ := ownsRow_form h.gone
    exact ⟨ao, _, cap, e, trivial, trivial⟩
  have hc := cell_blk h.hh
  have HT := Lib.hid ht
  clear ht hrun h
  go_enter Tryz.func37, Tryz.ntmps37
  go_wp2_with fail
  refine HT.out.mono ?_
  rintro e w3 ⟨o, w4, lv0, vals, rfl, ⟨rfl, S', w2, gv', lv', steps', hW2, hW4, hP, q1, q2, q3, hF24⟩, hL, hE⟩
  have hF43 : Fr (fun k => k = B.g) w4 w3 := hE.2
  have hW3 := hW4.left hL hE
  have hdeep := log_deep hW3.log
  have hc3 := cell_blk hW3.hh
  obtain ⟨ga3, gn3, gc3, rfl, _, _⟩ : ∃ ga gn gc, gv' = .slice ga gn gc ∧ True ∧ True := by
    obtain ⟨ao, cap, e, _, _⟩ := ownsRow_form hW3.gone
    exact ⟨ao, _, cap, e, trivial, trivial⟩
  have hfr := heap_freeAll hW3 q1 q2 q3
  have HDp := Lib.hid hdeep
  have HFr := Lib.hid hfr
  have H2 := Lib.hid hW2
  have HP := Lib.hid hP
  have HQ := Lib.hid q1
  have HFx := Lib.hid (show Fr (fun k => HF B yg lv' k ∨ k = w.heap.size) w2 w3 from (hF24.mono (fun k _ hk => .inr hk)).trans hF43 (fun k _ hk => .inl (.inl (by rw [hk]; simp))))
  clear hc hW2 hW4 hW3 hP q1 q2 q3 hF24 hF43 hL hE hdeep hfr
  simp only [Option.getD_none]
  go_wp2_with fail
  refine HDp.out.mono ?_
  rintro e w5 ⟨rfl, rfl⟩
  go_wp2_with fail
  refine HFr.out.mono ?_
  rintro e w6 ⟨rfl, hW6, hF6⟩
  have HW6 := Lib.hid hW6
  have HF6 := Lib.hid hF6
  clear hW6 hF6 hc3
  go_wp2_with fail
  go_ret
  refine ⟨rfl, ⟨S', w2, _, lv', steps', H2.out, HP.out, HW6.out, HFx.out.trans HF6.out (fun k _ hk => ?_), gfold_ok _ _ HQ.out⟩⟩
  rcases hk with hk | hk
  · exact .inl (.inl hk)
  · cases hk
end
end Go.Proofs.YtajojhfialbfkaaGreatDoor
/- Layer 15: an entry's bytes. -/
namespace Go.Proofs.YtajojhfialbfkaaGreatDoor
open Go.RowKit
set_option maxRecDepth 100000

def flagN (b : Bool) : Nat := if b = true then 1 else 0
theorem catalog_flag (b : Bool) (w : World) :
    Calls Tryz.prog 240 #[.bool b] w fun e w' => e = .returned (.int .u64 (flagN b : Int)) ∧ w = w' := by
  cases b
  · go_enter Tryz.func240, Tryz.ntmps240
    go_wp2_with fail
    go_ret
    exact ⟨rfl, rfl⟩
  · go_enter Tryz.func240, Tryz.ntmps240
    go_wp2_with fail
    go_ret
    exact ⟨rfl, rfl⟩

theorem bits_u32 (x y : Int) : ∃ n : Nat, n < 4294967296 ∧ bits .xor .u32 x y = (n : Int) := by
  have h1 : IntKind.u32.bits = 32 := rfl
  refine ⟨(BitVec.ofInt 32 x ^^^ BitVec.ofInt 32 y).toNat, (BitVec.ofInt 32 x ^^^ BitVec.ofInt 32 y).isLt, ?_⟩
  unfold bits
  exact u32_in _ (BitVec.ofInt 32 x ^^^ BitVec.ofInt 32 y).isLt
def crcN (l : List UInt8) : Nat := (crcOf l).toNat
theorem crcOf_nat (l : List UInt8) : crcOf l = (crcN l : Int) ∧ crcN l < 4294967296 := by
  obtain ⟨n, h1, h2⟩ := bits_u32 IntKind.u32.max (crcRun l)
  have h3 : crcOf l = (n : Int) := h2
  unfold crcN
  rw [h3]
  exact ⟨by simp, by simpa using h1⟩

/-- An entry's text, without its sum. -/
def EN.text (E : EN) (next : Nat) : List UInt8 :=
  filled ((((((([86] ++ numB E.id 4) ++ numB E.parent 4) ++ numB (flagN E.only) 1) ++ numB E.size 2) ++ numB E.root 2) ++ numB E.born 4) ++ numB next 2) 60
def EN.bytes (E : EN) (next : Nat) : List UInt8 := E.text next ++ numB (crcN (E.text next)) 4
theorem EN.text_length (E : EN) (next : Nat) : (E.text next).length = 60 := by simp [EN.text, filled, zeros, numB_length]
theorem EN.bytes_length (E : EN) (next : Nat) : (E.bytes next).length = 64 := by simp [EN.bytes, EN.text_length, numB_length]
structure EN.small (E : EN) : Prop where
  id : E.id < 4294967296
  parent : E.parent < 4294967296
  size : E.size ≤ 100000
  root : E.root ≤ 100000
  born : E.born < 4294967296

set_option maxHeartbeats 2000000 in
theorem entry_bytes (E : EN) (hE : E.small) (next : Nat) (hnx : next ≤ 100000) (w : World) :
    Calls Tryz.prog 195 #[ev E, .int .i64 (next : Int)] w fun e w' => e = .returned (.string (bstr (E.bytes next))) ∧ Below w.heap.size w w' := by
  have w1' := u64_in E.id (by have := hE.id; omega)
  have w2' := u64_in E.parent (by have := hE.parent; omega)
  have w3' := u64_in E.size (by have := hE.size; omega)
  have w4' := u64_in E.root (by have := hE.root; omega)
  have w5' := u64_in E.born (by have := hE.born; omega)
  have w6' := u64_in next (by omega)
  unfold ev
  clear hE hnx
  go_enter Tryz.func195, Tryz.ntmps195
  go_wp2_with fail
  have hb0 := blk_alloc (o' := Obj.cells #[.slice none 0 0] 182) (blk_new (w := w) (o := (Obj.cells #[.int .u32 (E.id : Int), .int .u32 (E.parent : Int), .bool E.only, .int .i64 (E.size : Int), .int .i64 (E.root : Int), .int .u32 (E.born : Int)] 50)) rfl)
  have hO : OutAt ((w.alloc (Obj.cells #[.int .u32 (E.id : Int), .int .u32 (E.parent : Int), .bool E.only, .int .i64 (E.size : Int), .int .i64 (E.root : Int), .int .u32 (E.born : Int)] 50)).alloc (Obj.cells #[.slice none 0 0] 182)) (w.heap.size + 1) (w.heap.size + 1) [] :=
    ⟨Nat.le_refl _, .slice none 0 0, blk_new (by simp), by simp [bcells], .inl ⟨rfl, rfl⟩⟩
  have hsz : ((w.alloc (Obj.cells #[.int .u32 (E.id : Int), .int .u32 (E.parent : Int), .bool E.only, .int .i64 (E.size : Int), .int .i64 (E.root : Int), .int .u32 (E.born : Int)] 50)).alloc (Obj.cells #[.slice none 0 0] 182)).heap.size = w.heap.size + 1 + 1 := by simp
  have hbel : Below w.heap.size w ((w.alloc (Obj.cells #[.int .u32 (E.id : Int), .int .u32 (E.parent : Int), .bool E.only, .int .i64 (E.size : Int), .int .i64 (E.root : Int), .int .u32 (E.born : Int)] 50)).alloc (Obj.cells #[.slice none 0 0] 182)) := ((Below.refl _ w).alloc (Nat.le_refl _) _).alloc (by simp) _
  generalize (w.alloc (Obj.cells #[.int .u32 (E.id : Int), .int .u32 (E.parent : Int), .bool E.only, .int .i64 (E.size : Int), .int .i64 (E.root : Int), .int .u32 (E.born : Int)] 50)).alloc (Obj.cells #[.slice none 0 0] 182) = w0 at *
  have hc := cell_blk hb0
  refine wp_region_perm 27 (fun w' => ∀ i, w'.cell? ⟨w.heap.size, i, none⟩ = #[.int .u32 (E.id : Int), .int .u32 (E.parent : Int), .bool E.only, .int .i64 (E.size : Int), .int .i64 (E.root : Int), .int .u32 (E.born : Int)][i]?) [(1, true), (2, true), (3, true), (5, true), (6, true), (7, true), (9, true), (10, true), (13, true), (14, true), (15, true), (17, true), (18, true), (19, true), (21, true), (22, true), (23, true), (25, true), (26, true), (0, false), (4, false), (8, false), (11, false), (12, false), (16, false), (20, false), (24, false)] (by kernel_rfl) (by kernel_rfl) ?_ (by intro c a d v w h; cases d <;> exact h) ?_
  · exact hc
  simp only [pickOps, List.getElem?_cons_succ, List.getElem?_cons_zero, List.map_cons, List.map_nil, List.drop_succ_cons, List.drop_zero]
  repeat ((with_reducible refine wpMix_read ?_ (fun K hK => ?_)); (focus rfl); apply Exists.intro; refine ⟨fun w' hS => ?_, ?_⟩; (focus (try dsimp only at hS; go_simp; try rfl)); go_simp; refine hK _ ?_; clear hK K)
  have hO1 := hO.drew
  have hB1 := blk_drew hb0
  have hL1 := hbel.drew
  have hz1 : w.heap.size + 1 + 1 ≤ w0.drew.heap.size := by show _ ≤ w0.heap.size; omega
  clear hO hb0 hbel hc hsz
  generalize w0.drew = w1 at *
  refine wpMix_act rfl (fun K hK => ?_)
  go_simp
  refine (out_text (w.heap.size + 1) (w.heap.size + 1) [] (bstr [86]) (by rw [size_bstr]; decide) w1 hO1 (by omega)).mono ?_
  rw [data_bstr, List.nil_append]
  rintro e w2 ⟨rfl, hO2, hbx⟩
  have hz2 := Nat.le_trans hz1 hbx.size
  have hB2 := blk_below hB1 hbx (by omega)
  have hL2 := hL1.trans (hbx.mono (by omega))
  refine hK _ _ (cell_blk hB2) ?_; clear hK K
  repeat ((with_reducible refine wpMix_read ?_ (fun K hK => ?_)); (focus rfl); apply Exists.intro; refine ⟨fun w' hS => ?_, ?_⟩; (focus (try dsimp only at hS; go_simp; try rfl)); go_simp; refine hK _ ?_; clear hK K)
  refine wpMix_act rfl (fun K hK => ?_)
  go_simp
  refine (out_num (w.heap.size + 1) (w.heap.size + 1) _ E.id 4 (by decide) (by decide) (by simp) w2 hO2 (by omega)).mono ?_
  rintro e w3 ⟨rfl, hO3, hbx⟩
  have hz3 := Nat.le_trans hz2 hbx.size
  have hB3 := blk_below hB2 hbx (by omega)
  have hL3 := hL2.trans (hbx.mono (by omega))
  refine hK _ _ (cell_blk hB3) ?_; clear hK K
  repeat ((with_reducible refine wpMix_read ?_ (fun K hK => ?_)); (focus rfl); apply Exists.intro; refine ⟨fun w' hS => ?_, ?_⟩; (focus (try dsimp only at hS; go_simp; try rfl)); go_simp; refine hK _ ?_; clear hK K)
  refine wpMix_act rfl (fun K hK => ?_)
  go_simp
  refine (out_num (w.heap.size + 1) (w.heap.size + 1) _ E.parent 4 (by decide) (by decide) (by simp [numB_length]) w3 hO3 (by omega)).mono ?_
  rintro e w4 ⟨rfl, hO4, hbx⟩
  have hz4 := Nat.le_trans hz3 hbx.size
  have hB4 := blk_below hB3 hbx (by omega)
  have hL4 := hL3.trans (hbx.mono (by omega))
  refine hK _ _ (cell_blk hB4) ?_; clear hK K
  repeat ((with_reducible refine wpMix_read ?_ (fun K hK => ?_)); (focus rfl); apply Exists.intro; refine ⟨fun w' hS => ?_, ?_⟩; (focus (try dsimp only at hS; go_simp; try rfl)); go_simp; refine hK _ ?_; clear hK K)
  refine wpMix_act rfl (fun K hK => ?_)
  go_simp
  refine (catalog_flag E.only w4).mono ?_
  rintro e w4b ⟨rfl, rfl⟩
  refine hK _ _ (cell_blk hB4) ?_; clear hK K
  repeat ((with_reducible refine wpMix_read ?_ (fun K hK => ?_)); (focus rfl); apply Exists.intro; refine ⟨fun w' hS => ?_, ?_⟩; (focus (try dsimp only at hS; go_simp; try rfl)); go_simp; refine hK _ ?_; clear hK K)
  refine wpMix_act rfl (fun K hK => ?_)
  go_simp
  refine (out_num (w.heap.size + 1) (w.heap.size + 1) _ (flagN E.only) 1 (by decide) (by decide) (by simp [numB_length]) w4 hO4 (by omega)).mono ?_
  rintro e w5 ⟨rfl, hO5, hbx⟩
  have hz5 := Nat.le_trans hz4 hbx.size
  have hB5 := blk_below hB4 hbx (by omega)
  have hL5 := hL4.trans (hbx.mono (by omega))
  refine hK _ _ (cell_blk hB5) ?_; clear hK K
  repeat ((with_reducible refine wpMix_read ?_ (fun K hK => ?_)); (focus rfl); apply Exists.intro; refine ⟨fun w' hS => ?_, ?_⟩; (focus (try dsimp only at hS; go_simp; try rfl)); go_simp; refine hK _ ?_; clear hK K)
  refine wpMix_act rfl (fun K hK => ?_)
  go_simp
  refine (out_num (w.heap.size + 1) (w.heap.size + 1) _ E.size 2 (by decide) (by decide) (by simp [numB_length]) w5 hO5 (by omega)).mono ?_
  rintro e w6 ⟨rfl, hO6, hbx⟩
  have hz6 := Nat.le_trans hz5 hbx.size
  have hB6 := blk_below hB5 hbx (by omega)
  have hL6 := hL5.trans (hbx.mono (by omega))
  refine hK _ _ (cell_blk hB6) ?_; clear hK K
  repeat ((with_reducible refine wpMix_read ?_ (fun K hK => ?_)); (focus rfl); apply Exists.intro; refine ⟨fun w' hS => ?_, ?_⟩; (focus (try dsimp only at hS; go_simp; try rfl)); go_simp; refine hK _ ?_; clear hK K)
  refine wpMix_act rfl (fun K hK => ?_)
  go_simp
  refine (out_num (w.heap.size + 1) (w.heap.size + 1) _ E.root 2 (by decide) (by decide) (by simp [numB_length]) w6 hO6 (by omega)).mono ?_
  rintro e w7 ⟨rfl, hO7, hbx⟩
  have hz7 := Nat.le_trans hz6 hbx.size
  have hB7 := blk_below hB6 hbx (by omega)
  have hL7 := hL6.trans (hbx.mono (by omega))
  refine hK _ _ (cell_blk hB7) ?_; clear hK K
  repeat ((with_reducible refine wpMix_read ?_ (fun K hK => ?_)); (focus rfl); apply Exists.intro; refine ⟨fun w' hS => ?_, ?_⟩; (focus (try dsimp only at hS; go_simp; try rfl)); go_simp; refine hK _ ?_; clear hK K)
  refine wpMix_act rfl (fun K hK => ?_)
  go_simp
  refine (out_num (w.heap.size + 1) (w.heap.size + 1) _ E.born 4 (by decide) (by decide) (by simp [numB_length]) w7 hO7 (by omega)).mono ?_
  rintro e w8 ⟨rfl, hO8, hbx⟩
  have hz8 := Nat.le_trans hz7 hbx.size
  have hB8 := blk_below hB7 hbx (by omega)
  have hL8 := hL7.trans (hbx.mono (by omega))
  refine hK _ _ (cell_blk hB8) ?_; clear hK K
  repeat ((with_reducible refine wpMix_read ?_ (fun K hK => ?_)); (focus rfl); apply Exists.intro; refine ⟨fun w' hS => ?_, ?_⟩; (focus (try dsimp only at hS; go_simp; try rfl)); go_simp; refine hK _ ?_; clear hK K)
  refine wpMix_nil ?_
  have HH := Lib.hid (out_num (w.heap.size + 1) (w.heap.size + 1) _ next 2 (by decide) (by decide) (by simp [numB_length]) w8 hO8 (by omega))
  have HL := Lib.hid hL8
  clear hO1 hO2 hO3 hO4 hO5 hO6 hO7 hO8 hB1 hB2 hB3 hB4 hB5 hB6 hB7 hB8 hL1 hL2 hL3 hL4 hL5 hL6 hL7 hL8 hz1 hz2 hz3 hz4 hz5 hz6 hz7
  go_wp2_with fail
  refine HH.out.mono ?_
  rintro e w9 ⟨rfl, hO9, hbx⟩
  have hz9 := Nat.le_trans hz8 hbx.size
  have HL := Lib.hid (HL.out.trans (hbx.mono (by omega)))
  have HO9 := Lib.hid hO9
  clear hO9 hbx
  go_wp2_with fail
  refine (out_fill (w.heap.size + 1) (w.heap.size + 1) _ 60 (by simp [numB_length]) (by decide) w9 HO9.out (by omega)).mono ?_
  rintro e w10 ⟨rfl, hO10, hbx⟩
  have hO10 : OutAt w10 (w.heap.size + 1) (w.heap.size + 1) (E.text next) := hO10
  have hz10 := Nat.le_trans hz9 hbx.size
  have HL := Lib.hid (HL.out.trans (hbx.mono (by omega)))
  have HO10 := Lib.hid hO10
  have HBy := Lib.hid (out_bytes _ _ _ _ hO10)
  clear hO10 hbx
  go_wp2_with fail
  refine HBy.out.mono ?_
  rintro e w11 ⟨rfl, rfl⟩
  go_wp2_with fail
  have hp := blk_new (w := w10) (o := Obj.cells #[.string (bstr (E.text next))] 9) rfl
  refine (crc_sum (E.text next) (by rw [EN.text_length]; decide) w10.heap.size _ hp).mono ?_
  rintro e w11 ⟨rfl, hbx⟩
  have hbx : Below w10.heap.size w10 w11 := ((Below.refl w10.heap.size w10).alloc (Nat.le_refl _) _).trans (hbx.mono (by simp))
  obtain ⟨hn1, hn2⟩ := crcOf_nat (E.text next)
  have hcu := u64_in (crcN (E.text next)) (by omega)
  have hz11 := Nat.le_trans hz10 hbx.size
  have HL := Lib.hid (HL.out.trans (hbx.mono (by omega)))
  have hO11 : OutAt w11 (w.heap.size + 1) (w.heap.size + 1) (E.text next) := HO10.out.below hbx
  have HO11 := Lib.hid hO11
  clear hO11 hbx hp hn2
  rw [hn1]
  clear hn1
  go_wp2_with fail
  refine (out_num (w.heap.size + 1) (w.heap.size + 1) _ (crcN (E.text next)) 4 (by decide) (by decide) (by rw [EN.text_length]; decide) w11 HO11.out (by omega)).mono ?_
  rintro e w12 ⟨rfl, hO12, hbx⟩
  have HL := Lib.hid (HL.out.trans (hbx.mono (by omega)))
  have HBy := Lib.hid (out_bytes _ _ _ _ hO12)
  clear hO12 hbx
  go_wp2_with fail
  refine HBy.out.mono ?_
  rintro e w13 ⟨rfl, rfl⟩
  go_wp2_with fail
  go_ret
  exact ⟨rfl, HL.out⟩
end Go.Proofs.YtajojhfialbfkaaGreatDoor
/- Law 18: Format. -/
namespace Go.Proofs.YtajojhfialbfkaaGreatDoor
open Go.RowKit
set_option maxRecDepth 100000

/-- What Format leaves. -/
def FormatEnd (D : DS) (j b : Int) (d : Nat) (sv : Value) (w' : World) : Prop :=
  DiskAt w' d sv (if suCheck (newSU j b) D.l.length = 0 then D.format j b else D)

section
variable {w : World} {d : Nat} {sv : Value} {D : DS}

theorem l18_format_in (a1 a2 a3 : Nat) (j b : Int) (R : Ending → World → Prop)
    (h1 : w.heap[a1]? = some (.cells #[.pointer (some ⟨d, 0, none⟩)] 55 (0, 0))) (h2 : w.heap[a2]? = some (.cells #[.int .i64 j] 3 (0, 0))) (h3 : w.heap[a3]? = some (.cells #[.int .i64 b] 3 (0, 0)))
    (h : Calls Tryz.prog 49 #[.pointer (some ⟨d, 0, none⟩), .int .i64 j, .int .i64 b] w fun e w' => (e = unit0 ∨ ∃ n, e = failed n) ∧ R e w') :
    Calls Tryz.prog 48 #[.pointer (some ⟨a1, 0, none⟩), .pointer (some ⟨a2, 0, none⟩), .pointer (some ⟨a3, 0, none⟩)] w R := by
  have h1 := cell_blk h1
  have h2 := cell_blk h2
  have h3 := cell_blk h3
  have H := Lib.hid h
  clear h
  go_enter Tryz.func48, Tryz.ntmps48
  go_wp2_with fail
  refine H.out.mono ?_
  rintro e w' ⟨rfl | ⟨n, rfl⟩, hR⟩
  · go_wp2_with fail
    go_end0
    exact hR
  · exact ⟨rfl, hR⟩

theorem enters_l18f (a b c : Value) : Enters 48 (#[] ++ #[a, b, c]) := fun w => by simp [go_sem]

theorem l18_format (h : DiskAt w d sv D) (hc : D.calm) (hn : D.l.length ≤ 4096) (j b : Int) :
    Calls Tryz.prog 14 #[.pointer (some ⟨d, 0, none⟩), .int .i64 j, .int .i64 b] w fun e w' =>
      e = .returned (.int .i64 (suCheck (newSU j b) D.l.length)) ∧ FormatEnd D j b d sv w' ∧ Fr (DiskF d sv) w w' := by
  have H := Lib.hid h
  have HC := Lib.hid hc
  have HN := Lib.hid hn
  clear h hc hn
  go_enter Tryz.func14, Tryz.ntmps14
  go_wp2_with fail
  refine (guard_any 48 #[] #[.pointer (some ⟨w.heap.size, 0, none⟩), .pointer (some ⟨w.heap.size + 1, 0, none⟩), .pointer (some ⟨w.heap.size + 1 + 1, 0, none⟩)] (enters_l18f _ _ _) _
    (fun o w2 => o.getD 0 = suCheck (newSU j b) D.l.length ∧ FormatEnd D j b d sv w2 ∧ Fr (DiskF d sv) w w2) ?_).mono ?_
  · have hlt := H.out.lt
    have F4 : Fr (fun _ => False) w ((((w.alloc (Obj.cells #[.pointer (some ⟨d, 0, none⟩)] 55)).alloc (Obj.cells #[.int .i64 j] 3)).alloc (Obj.cells #[.int .i64 b] 3)).alloc (Obj.cells #[.int .i64 0] 29)) :=
      (((((Fr.refl _ w).alloc _).alloc _).alloc _).alloc _)
    have hD := H.out.fr F4 (fun _ _ h => h)
    have b0 := blk_alloc (o' := Obj.cells #[.int .i64 0] 29) (blk_alloc (o' := Obj.cells #[.int .i64 b] 3) (blk_alloc (o' := Obj.cells #[.int .i64 j] 3) (blk_new (w := w) (o := Obj.cells #[.pointer (some ⟨d, 0, none⟩)] 55) rfl)))
    have b1 := blk_alloc (o' := Obj.cells #[.int .i64 0] 29) (blk_alloc (o' := Obj.cells #[.int .i64 b] 3) (blk_new (o := Obj.cells #[.int .i64 j] 3) (size_alloc (w := w) (o := Obj.cells #[.pointer (some ⟨d, 0, none⟩)] 55) rfl)))
    have b2 := blk_alloc (o' := Obj.cells #[.int .i64 0] 29) (blk_new (o := Obj.cells #[.int .i64 b] 3) (size_alloc (o := Obj.cells #[.int .i64 j] 3) (size_alloc (w := w) (o := Obj.cells #[.pointer (some ⟨d, 0, none⟩)] 55) rfl)))
    have hs3 := size_alloc (o := Obj.cells #[.int .i64 b] 3) (size_alloc (o := Obj.cells #[.int .i64 j] 3) (size_alloc (w := w) (o := Obj.cells #[.pointer (some ⟨d, 0, none⟩)] 55) rfl))
    have b3 := blk_new (o := Obj.cells #[.int .i64 0] 29) hs3
    refine l18_format_in _ _ _ j b _ b0 b1 b2 ((store_format hD HC.out HN.out j b).mono ?_)
    rintro e w2 ⟨hcase, hF⟩
    have hFw : Fr (DiskF d sv) w w2 := (F4.mono (fun _ _ h => h.elim)).trans hF (fun _ _ h => h)
    have hb3 : w2.heap[w.heap.size + 1 + 1 + 1]? = some (Obj.cells #[.int .i64 0] 29 (0, 0)) := hF.blk b3 (fun hk => by have := hlt _ hk; omega)
    rw [hs3]
    rcases hcase with ⟨q, rfl, hd⟩ | ⟨q, rfl, hd⟩
    · exact ⟨.inl rfl, hb3, .inl ⟨rfl, q.symm, by unfold FormatEnd; rw [if_pos q]; exact hd, hFw⟩⟩
    · exact ⟨.inr ⟨_, rfl⟩, hb3, .inr ⟨_, rfl, rfl, by unfold FormatEnd; rw [if_neg q]; exact hd, hFw⟩⟩
  · rintro e w' ⟨o, w2, rfl, ⟨ho, h3, h4⟩, hF⟩
    have hlt := H.out.lt
    have hs3 := size_alloc (o := Obj.cells #[.int .i64 b] 3) (size_alloc (o := Obj.cells #[.int .i64 j] 3) (size_alloc (w := w) (o := Obj.cells #[.pointer (some ⟨d, 0, none⟩)] 55) rfl))
    rw [hs3] at hF
    have h3' := Lib.hid (show FormatEnd D j b d sv w' from DiskAt.fr h3 hF (fun x hx e => by have := hlt x hx; omega))
    have h4' := Lib.hid (h4.trans hF (fun x hx e => absurd e (by omega)))
    rw [ho]
    clear h3 h4 hF hs3 ho
    go_wp2_with fail
    go_ret
    exact ⟨rfl, h3'.out, h4'.out⟩
end
end Go.Proofs.YtajojhfialbfkaaGreatDoor
/- Layer 10: the heap: blocks of other types are none of its own. -/
namespace Go.Proofs.YtajojhfialbfkaaGreatDoor
open Go.RowKit
set_option maxRecDepth 100000

/-- The types of the heap's blocks, and of the boxes of ways back. -/
def hpTy : List Nat := [126, 110, 112, 193, 3, 153, 1, 75, 234, 58, 305, 124, 4, 47, 232, 77, 50, 206, 44]

section
variable {w w' : World} {B : HB} {S : HS} {yg : Nat} {gv lv : Value} {depth : Nat} {steps : List Step}

/-- A block of another type is none of the heap's. -/
theorem HW.fr_ty {x : Nat} {cs : Array Value} {t : TypeId} (ht : hpTy.contains t = false) (h : HW w B S yg gv lv depth steps) (hx : w.heap[x]? = some (.cells cs t (0, 0))) (hF : Fr (fun k => k = x) w w') : HW w' B S yg gv lv depth steps ∧ ¬ HF B yg lv x := by
  have ne : ∀ a : Nat, hpTy.contains a = true → a ≠ t := by
    rintro a ha rfl
    rw [ht] at ha; cases ha
  have en : ∀ a : Nat, hpTy.contains a = true → t ≠ a := fun a ha e => ne a ha e.symm
  have e0 : B.h ≠ x := ne_blk h.hh hx (ne _ (by decide))
  have e1 : B.d ≠ x := ne_blk h.disk.hd hx (ne _ (by decide))
  have e2 : B.db ≠ x := fun e => ownsRow_ne h.disk.row hx (en _ (by decide)) (by rw [← e]; rfl)
  have e3 : B.m ≠ x := ne_blk h.gr.hm hx (ne _ (by decide))
  have e4 : B.mb ≠ x := fun e => ownsRow_ne h.gr.row hx (en _ (by decide)) (by rw [← e]; rfl)
  have e5 : B.rf ≠ x := by
    rintro rfl
    obtain ⟨es, c, hb, _⟩ := h.refs
    rw [hb] at hx; injection hx with hx; cases hx
  have e6 : yg ≠ x := by
    rintro rfl
    obtain ⟨es, c, hb, _⟩ := h.young
    rw [hb] at hx; injection hx with hx; cases hx
  have e7 : B.g ≠ x := ne_blk h.log.hg hx (ne _ (by decide))
  have e8 : lv.ownBlock ≠ some x := ownsRow_ne h.log.row hx (en _ (by decide))
  have e9 : gv.ownBlock ≠ some x := ownsRow_ne h.gone hx (en _ (by decide))
  have hnx : ¬ HF B yg lv x := by
    rintro (hm | hm)
    · simp only [List.mem_cons, List.not_mem_nil, or_false] at hm
      rcases hm with e | e | e | e | e | e | e | e
      · exact e0 e.symm
      · exact e1 e.symm
      · exact e2 e.symm
      · exact e3 e.symm
      · exact e4 e.symm
      · exact e5 e.symm
      · exact e6 e.symm
      · exact e7 e.symm
    · exact e8 hm
  have hbx : ∀ s ∈ steps, ∀ p ∈ s.boxes B, p.1 ≠ x := by
    intro s hs p hp e
    have h1 := ((h.steps s hs).box p hp).1
    rw [e, hx] at h1
    injection h1 with h1
    cases s <;> simp only [Step.boxes, List.mem_cons, List.not_mem_nil, or_false] at hp
    · rcases hp with rfl | rfl <;> (injection h1 with _ h1; exact en _ (by decide) h1)
    · rcases hp with rfl | rfl <;> (injection h1 with _ h1; exact en _ (by decide) h1)
    · rcases hp with rfl | rfl <;> (injection h1 with _ h1; exact en _ (by decide) h1)
    · rcases hp with rfl | rfl <;> (injection h1 with _ h1; exact en _ (by decide) h1)
    · rcases hp with rfl | rfl | rfl | rfl <;> (injection h1 with _ h1; exact en _ (by decide) h1)
    · obtain ⟨q, _, rfl⟩ := List.mem_map.1 hp
      injection h1 with _ h1
      obtain ⟨_, _, ty⟩ := q
      exact en (ExtTy.ty ty) (by cases ty <;> decide) h1
  refine ⟨⟨hF.blk h.hh e0, ?_, ?_, h.refs.fr hF e5, h.young.fr hF e6, ownsRow_fr h.gone hF (fun k hk e => e9 (e ▸ hk)), ?_, h.apart, h.lapart, h.gapart, fun s hs => ⟨fun p hp => ⟨hF.blk ((h.steps s hs).box p hp).1 (hbx s hs p hp), ((h.steps s hs).box p hp).2⟩, fun x1 y a c l e => ?_, (h.steps s hs).tab⟩⟩, hnx⟩
  · refine h.disk.fr hF ?_
    rintro k (rfl | hk)
    · exact e1
    · injection hk with hk; subst hk; exact e2
  · refine h.gr.fr hF ?_
    rintro k (rfl | hk)
    · exact e3
    · injection hk with hk; subst hk; exact e4
  · refine h.log.fr hF ?_
    rintro k (rfl | hk)
    · exact e7
    · exact fun e => e8 (e ▸ hk)
  · obtain ⟨h1, h2⟩ := (h.steps s hs).gone x1 y a c l e
    exact ⟨ownsRow_fr h1 hF (fun k hk e => ownsRow_ne h1 hx (en _ (by decide)) (e ▸ hk)), h2⟩

end
end Go.Proofs.YtajojhfialbfkaaGreatDoor
/- Layer 10: the heap: blocks that are none of its own may be turned; a way back of another layer. -/
namespace Go.Proofs.YtajojhfialbfkaaGreatDoor
open Go.RowKit
set_option maxRecDepth 100000

/-- A block that is none of a heap's. -/
def Alien (w : World) (B : HB) (yg : Nat) (b : Nat) : Prop :=
  (∃ cs t, w.heap[b]? = some (.cells cs t (0, 0)) ∧ hpTy.contains t = false) ∨ (∃ es c, w.heap[b]? = some (.map es c) ∧ b ≠ B.rf ∧ b ≠ yg)

theorem hpTy_ne {a t : Nat} (ht : hpTy.contains t = false) (ha : hpTy.contains a = true) : a ≠ t := by
  rintro rfl
  rw [ht] at ha; cases ha

theorem ExtTy.in_ (e : ExtTy) : hpTy.contains e.ty = true := by cases e <;> decide

section
variable {w w' : World} {B : HB} {S : HS} {yg : Nat} {gv lv : Value} {depth : Nat} {steps : List Step}

theorem Alien.not_cells {b a : Nat} {cs : Array Value} (h : Alien w B yg b) (ha : hpTy.contains a = true) : w.heap[b]? ≠ some (.cells cs a (0, 0)) := by
  intro e
  rcases h with ⟨cs', t, h1, h2⟩ | ⟨es, c, h1, _⟩
  · rw [e] at h1; injection h1 with h1; injection h1 with _ h1; exact hpTy_ne h2 ha h1
  · rw [e] at h1; injection h1 with h1; cases h1

theorem Alien.lt {b : Nat} (h : Alien w B yg b) : b < w.heap.size := by
  rcases h with ⟨_, _, h, _⟩ | ⟨_, _, h, _⟩ <;> exact lt_of_blk h

theorem Alien.not_row {B0 e size n b : Nat} {v : Value} {xs : List Value} (h : Alien w B yg b) (he : hpTy.contains e = true) (hr : w.ownsRow B0 e size v n xs) : v.ownBlock ≠ some b := by
  intro hv
  obtain ⟨_, ⟨rfl, _⟩ | ⟨g, cap, cur, rfl, _, h3, _⟩⟩ := hr
  · simp [Value.ownBlock] at hv
  · have : g = b := by simpa [Value.ownBlock] using hv
    subst this
    exact h.not_cells he h3

theorem HW.not_alien (h : HW w B S yg gv lv depth steps) {b : Nat} (ha : Alien w B yg b) : ¬ HF B yg lv b := by
  have hmap : ∀ f, MapIs ik ik ikOk w b f → b ≠ B.rf ∧ b ≠ yg := by
    rintro f ⟨es, c, hb, _⟩
    rcases ha with ⟨cs', t, h1, h2⟩ | ⟨es', c', h1, h2⟩
    · rw [hb] at h1; injection h1 with h1; cases h1
    · exact h2
  rintro (hm | hm)
  · simp only [List.mem_cons, List.not_mem_nil, or_false] at hm
    rcases hm with e | e | e | e | e | e | e | e
    · subst e; exact ha.not_cells (by decide) h.hh
    · subst e; exact ha.not_cells (by decide) h.disk.hd
    · exact ha.not_row (by decide) h.disk.row (by rw [e]; rfl)
    · subst e; exact ha.not_cells (by decide) h.gr.hm
    · exact ha.not_row (by decide) h.gr.row (by rw [e]; rfl)
    · subst e; exact (hmap _ h.refs).1 rfl
    · subst e; exact (hmap _ h.young).2 rfl
    · subst e; exact ha.not_cells (by decide) h.log.hg
  · exact ha.not_row (by decide) h.log.row hm

theorem StepIs.not_alien {s : Step} (h : StepIs w B yg lv s) {b : Nat} (ha : Alien w B yg b) : (∀ p ∈ s.boxes B, p.1 ≠ b) ∧ (∀ x y a c l, s = .gone x y a c l → (Value.slice a l.length c).ownBlock ≠ some b) := by
  refine ⟨?_, fun x y a c l e => ha.not_row (by decide) (h.gone x y a c l e).1⟩
  rintro p hp rfl
  have h1 := (h.box p hp).1
  cases s <;> simp only [Step.boxes, List.mem_cons, List.not_mem_nil, or_false] at hp
  · rcases hp with rfl | rfl <;> exact ha.not_cells (by decide) h1
  · rcases hp with rfl | rfl <;> exact ha.not_cells (by decide) h1
  · rcases hp with rfl | rfl <;> exact ha.not_cells (by decide) h1
  · rcases hp with rfl | rfl <;> exact ha.not_cells (by decide) h1
  · rcases hp with rfl | rfl | rfl | rfl <;> exact ha.not_cells (by decide) h1
  · obtain ⟨q, _, rfl⟩ := List.mem_map.1 hp
    exact ha.not_cells (ExtTy.in_ _) h1

theorem HW.gone_alien (h : HW w B S yg gv lv depth steps) {b : Nat} (ha : Alien w B yg b) : gv.ownBlock ≠ some b := ha.not_row (by decide) h.gone

/-- Blocks that are none of the heap's are turned, or the log's. -/
theorem HW.fr_alien (h : HW w B S yg gv lv depth steps) {F : Nat → Prop} (hF : Fr F w w') (ha : ∀ k, k < w.heap.size → F k → Alien w B yg k) : HW w' B S yg gv lv depth steps := by
  have hn : ∀ k, HF B yg lv k → ¬ F k := fun k hk f => h.not_alien (ha k (h.lt k hk) f) hk
  have hl : ∀ k ∈ [B.h, B.d, B.db, B.m, B.mb, B.rf, yg, B.g], ¬ F k := fun k hk => hn k (.inl hk)
  refine ⟨hF.blk h.hh (hl _ (by simp)), ?_, ?_, h.refs.fr hF (hl _ (by simp)), h.young.fr hF (hl _ (by simp)), ownsRow_fr h.gone hF (fun k hk f => h.gone_alien (ha k (h.gone.lt k hk).2 f) hk), h.log.fr hF (fun k hk => hn k (h.logF hk)), h.apart, h.lapart, h.gapart, fun s hs => ⟨fun p hp => ?_, fun x1 y a c l e => ?_, (h.steps s hs).tab⟩⟩
  · refine h.disk.fr hF ?_
    rintro k (rfl | hk)
    · exact hl _ (by simp)
    · injection hk with hk; subst hk; exact hl _ (by simp)
  · refine h.gr.fr hF ?_
    rintro k (rfl | hk)
    · exact hl _ (by simp)
    · injection hk with hk; subst hk; exact hl _ (by simp)
  · have hb := (h.steps s hs).box p hp
    exact ⟨hF.blk hb.1 (fun f => ((h.steps s hs).not_alien (ha p.1 (lt_of_blk hb.1) f)).1 p hp rfl), hb.2⟩
  · obtain ⟨h1, h2⟩ := (h.steps s hs).gone x1 y a c l e
    exact ⟨ownsRow_fr h1 hF (fun k hk f => ((h.steps s hs).not_alien (ha k (h1.lt k hk).2 f)).2 x1 y a c l e hk), h2⟩

/-- A way back of another layer: a block of its own is turned, the log is longer. -/
theorem HW.of_ext (h : HW w B S yg gv lv depth steps) {b : Nat} {lv' : Value} {f : FuncId} {cap : Array Value} (ha : Alien w B yg b) (hF : Fr (fun k => LogF B.g lv k ∨ k = b) w w') (hL : LogAt w' B.g lv' depth (steps.map Step.val ++ [cl f cap]))
    (hlv : ∀ k, lv'.ownBlock = some k → lv.ownBlock = some k ∨ w.heap.size ≤ k) (bx : List (Nat × Array Value × ExtTy)) (hbx : ∀ q ∈ bx, w'.heap[q.1]? = some (.cells q.2.1 q.2.2.ty (0, 0)) ∧ w.heap.size ≤ q.1 ∧ ¬ LogF B.g lv' q.1) :
    HW w' B S yg gv lv' depth (steps ++ [.ext f cap bx]) := by
  have hn0 := h.not_alien ha
  have hl : ∀ k ∈ [B.h, B.d, B.db, B.m, B.mb, B.rf, yg], ¬ (LogF B.g lv k ∨ k = b) := by
    rintro k hk (f | rfl)
    · exact h.ne_log hk f
    · exact hn0 (.inl (by simp only [List.mem_cons, List.not_mem_nil, or_false] at hk ⊢; rcases hk with h | h | h | h | h | h | h <;> simp [h]))
  have hnew : ∀ k, k < w.heap.size → ¬ HF B yg lv k → ¬ HF B yg lv' k := by
    rintro k hk hn (h1 | h1)
    · exact hn (.inl h1)
    · rcases hlv k h1 with h2 | h2
      · exact hn (.inr h2)
      · omega
  refine ⟨hF.blk h.hh (hl _ (by simp)), ?_, ?_, h.refs.fr hF (hl _ (by simp)), h.young.fr hF (hl _ (by simp)), ?_, ?_, h.apart, ?_, fun k hk => hnew k (h.gone.lt k hk).2 (h.gapart k hk), ?_⟩
  · refine h.disk.fr hF ?_
    rintro k (rfl | hk)
    · exact hl _ (by simp)
    · injection hk with hk; subst hk; exact hl _ (by simp)
  · refine h.gr.fr hF ?_
    rintro k (rfl | hk)
    · exact hl _ (by simp)
    · injection hk with hk; subst hk; exact hl _ (by simp)
  · refine ownsRow_fr h.gone hF ?_
    rintro k hk (f | rfl)
    · exact h.gapart k hk (h.logF f)
    · exact h.gone_alien ha hk
  · rw [List.map_append]; exact hL
  · intro k hk hm
    rcases hlv k hk with h1 | h1
    · exact h.lapart k h1 hm
    · have := h.lvlt hm; omega
  · intro s hs
    rcases List.mem_append.1 hs with hs | hs
    · have hb := h.steps s hs
      have hna := hb.not_alien ha
      refine ⟨fun p hp => ?_, fun x y a c l e => ?_, hb.tab⟩
      · obtain ⟨h1, h2⟩ := hb.box p hp
        refine ⟨hF.blk h1 ?_, hnew _ (lt_of_blk h1) h2⟩
        rintro (f | e)
        · exact h2 (h.logF f)
        · exact hna.1 p hp e
      · obtain ⟨h1, h2⟩ := hb.gone x y a c l e
        refine ⟨ownsRow_fr h1 hF ?_, fun k hk => hnew k (h1.lt k hk).2 (h2 k hk)⟩
        rintro k hk (f | e2)
        · exact h2 k hk (h.logF f)
        · exact hna.2 x y a c l e (e2 ▸ hk)
    · have hs := List.mem_singleton.1 hs
      subst hs
      refine ⟨fun p hp => ?_, fun _ _ _ _ _ e => (by cases e), fun _ _ _ _ _ _ _ _ e => (by cases e)⟩
      simp only [Step.boxes] at hp
      obtain ⟨q, hq, rfl⟩ := List.mem_map.1 hp
      obtain ⟨q1, q2, q3⟩ := hbx q hq
      refine ⟨q1, ?_⟩
      rintro (f | f)
      · have := h.lvlt f; simp only at this; omega
      · exact q3 (.inr f)
end
end Go.Proofs.YtajojhfialbfkaaGreatDoor
