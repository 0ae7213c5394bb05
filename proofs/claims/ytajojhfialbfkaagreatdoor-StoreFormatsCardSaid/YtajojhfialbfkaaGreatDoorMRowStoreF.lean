/- The statement StoreFormats: for every number of sectors, journal, bits and whatever was written before, the law answers true and its arguments read as before: the row, and the tied card. No condition of its own. -/
import Derived.LaidEqlPtr
import Derived.Test.YtajojhfialbfkaaGreatDoorCards
import Derived.Test.YtajojhfialbfkaaGreatDoorTie
import Derived.ProofKit
import Derived.OpenShut
import Derived.LaidMore
import Derived.Lay
import Derived.SizedLaws
import Derived.SevenTiedAt
import Derived.Stop.Joined
import Derived.Deep.Slices
import Derived.Deep.Fields
import Derived.ChangeSame
import Derived.ChangeOld
import Derived.Carry
import Derived.Below
import Derived.Test.YtajojhfialbfkaaGreatDoorMRowStoreF12
/- Law 18: Begin; an opened store as a core. -/
namespace Go.Proofs.YtajojhfialbfkaaGreatDoor
open Go.RowKit
set_option maxRecDepth 100000

/-- A core without volumes. -/
def KS.none (bits next epoch : Nat) : KS := ⟨bits, next, epoch, fun _ => Option.none, fun _ => Option.none⟩
theorem OpenedAt.drew {d : Nat} {D : DS} {s : SU} {t : Nat} {B : HB} {yg : Nat} {C : CB} {w : World} (h : OpenedAt d D s t B yg C w) : OpenedAt d D s t B yg C w.drew :=
  ⟨h.ht, h.hd, h.hw.fr ((Fr.refl (fun _ => False) w).drew) (fun _ _ h => h), ⟨h.hc.hc, h.hc.hr, h.hc.hx, h.hc.vols⟩, h.hix, h.ord⟩
theorem vols_none : VolsAre (fun _ => none) [] := ⟨List.Pairwise.nil, fun _ => rfl⟩

theorem OpenedAt.cw {d : Nat} {D : DS} {s : SU} {t : Nat} {B : HB} {yg : Nat} {C : CB} {w : World} (h : OpenedAt d D s t B yg C w) :
    CW w B C (HS.fresh D (2 + s.journal).toNat) (KS.none s.bits.toNat s.next s.epoch) yg (.slice none 0 0) (.slice none 0 0) 0 [] := by
  obtain ⟨g1, g2, g3, g4, g5, g6⟩ := h.ord
  have hr := g1 B.rf (.inl (by simp))
  have hy := g1 yg (.inl (by simp))
  exact ⟨h.hw, h.hc, ⟨#[], 0, h.hix, Go.MapKept.stamped_empty 0, by simp, by simp [KS.none]⟩, by omega, by omega, by omega, by omega, by omega⟩

theorem CF_low {w : World} {d : Nat} {sv : Value} {B : HB} {yg : Nat} {C : CB} {D : DS} {s : SU} {t : Nat} {w' : World} {n : Nat} (h : OpenedAt d D s t B yg C w') (hl : OpenLow w d sv B yg C) (hd : n ≤ d) (hs : ∀ k, sv.ownBlock = some k → n ≤ k) (hn : n ≤ w.heap.size) :
    ∀ k, CF B C yg (.slice none 0 0) k ∨ k = t → n ≤ k := by
  obtain ⟨g1, g2, g3, g4, g5, g6⟩ := h.ord
  have hix := hl.2
  rintro k ((f | f) | rfl)
  · rcases hl.1 k f with rfl | f | f
    · exact hd
    · exact hs k f
    · omega
  · simp only [List.mem_cons, List.not_mem_nil, or_false] at f
    rcases f with rfl | rfl | rfl <;> omega
  · omega

theorem disk_eql (x : Nat) (W : World) : (binOp .eql 55 (.pointer (some ⟨x, 0, none⟩)) (.pointer (some ⟨x, 0, none⟩))).run Tryz.prog W = .ok (.bool true) W := by
  have h : (Tryz.prog.info? 110).isSome = true := by kernel_rfl
  obtain ⟨j, hj⟩ := Option.isSome_iff_exists.1 h
  exact run_eql_ptr_same _ _ Tryz.underlying55 hj

set_option maxHeartbeats 2000000 in
/-- Begin: a store on a new disk. -/
theorem l18_begin (n : Nat) (hn : n ≤ 4096) (hn0 : 0 < n) (j b : Nat) (hck : suCheck (newSU j b) n = 0) (w : World) :
    Calls Tryz.prog 41 #[.int .i64 (n : Int), .int .i64 (j : Int), .int .i64 (b : Int)] w fun e w' =>
      ∃ d t B yg C, e = .returned (.tuple #[.pointer (some ⟨t, 0, none⟩), .bool true]) ∧ OpenedAt d ((DS.fresh n).format j b) (newSU j b) t B yg C w' ∧ (∀ k, CF B C yg (.slice none 0 0) k ∨ k = t → w.heap.size ≤ k) ∧ Below w.heap.size w w' := by
  have hmm : (min (max (n : Int) 0) 4096).toNat = n := by omega
  have hdn := disk_new (n : Int) ⟨by omega, by omega⟩ w
  rw [hmm] at hdn
  have HDn := Lib.hid hdn
  have HN := Lib.hid (And.intro hn hn0)
  have HCk := Lib.hid hck
  have hj : (j : Int) ≤ 512 := by
    have q := (suCheck_zero hck).1
    unfold suBad newSU at q
    simp only [Bool.or_eq_false_iff, decide_eq_false_iff_not] at q
    omega
  clear hdn hmm hn hn0 hck
  go_enter Tryz.func41, Tryz.ntmps41
  go_wp2_with fail
  refine HDn.out.mono ?_
  rintro e w1 ⟨rfl, sv, hd1, hb1, hlo⟩
  have hlen : (DS.fresh n).l.length = n := DS.fresh_len n
  have hf := l18_format hd1 (DS.calm_fresh n) (by rw [hlen]; exact HN.out.1) j b
  rw [hlen, HCk.out] at hf
  have HFm := Lib.hid hf
  have HB1 := Lib.hid (And.intro hb1 hlo)
  clear hd1 hb1 hlo hf
  go_wp2_with fail
  refine HFm.out.mono ?_
  rintro e w2 ⟨rfl, hd2, hF2⟩
  have hd2 : DiskAt w2 w.heap.size sv ((DS.fresh n).format j b) := by
    unfold FormatEnd at hd2
    rw [hlen, if_pos HCk.out] at hd2
    exact hd2
  have hlen2 : ((DS.fresh n).format j b).l.length = n := by rw [format_len, hlen]
  have hop := l18_open0 hd2 (format_calm (DS.calm_fresh n) _ _) (whole_format (whole_fresh n) (DS.calm_fresh n) _ _) (by rw [hlen2]; exact HN.out.1) (newSU j b) (read_format (DS.calm_fresh n) _ _ (by rw [hlen]; exact HCk.out)) (by rw [hlen2]; exact HCk.out) rfl (show 1 < 4294967296 by decide)
  have HOp := Lib.hid hop
  have hb2 := HB1.out.1.trans (hF2.below (B := w.heap.size) (fun k hk f => by
    rcases f with rfl | f
    · exact Nat.le_refl _
    · exact HB1.out.2 k f) HB1.out.1.size)
  have HB2 := Lib.hid hb2
  clear hd2 hF2 hop hb2 hlen2 hlen
  go_wp2_with fail
  refine HOp.out.mono ?_
  rintro e w3 ⟨t, B, yg, C, rfl, hat, hlow, hb3⟩
  have hct := cell_blk hat.ht
  have hcc := cell_blk hat.hc.hc
  have hz := HB2.out.size
  have R := Lib.hid (show OpenedAt w.heap.size ((DS.fresh n).format j b) (newSU j b) t B yg C w3 ∧ (∀ k, CF B C yg (.slice none 0 0) k ∨ k = t → w.heap.size ≤ k) ∧ Below w.heap.size w w3 from
    ⟨hat, CF_low hat hlow (Nat.le_refl _) HB1.out.2 hz, HB2.out.trans (hb3.mono hz)⟩)
  clear hat hlow hb3 hz
  go_wp2_with fail
  have hde := fun W => disk_eql w.heap.size W
  refine wp_region_perm 23 (fun w' => ∀ i, w'.cell? ⟨t, i, none⟩ = #[.pointer (some ⟨C.c, 0, none⟩), .pointer (some ⟨w.heap.size, 0, none⟩), .int .u32 ((newSU j b).epoch : Int), .int .i64 (newSU j b).journal, .int .i64 (newSU j b).bits, .int .i64 ((newSU j b).head : Int), .int .u32 ((newSU j b).next : Int)][i]?) [(0, true), (1, true), (2, true), (3, true), (4, true), (5, true), (6, true), (7, true), (8, true), (9, true), (10, true), (11, true), (12, true), (13, true), (14, true), (15, true), (16, true), (17, true), (18, true), (19, true), (20, true), (21, true), (22, true)] (by kernel_rfl) (by kernel_rfl) ?_ (by intro c a d v w h; cases d <;> exact h) ?_
  · exact hct
  simp only [pickOps, List.getElem?_cons_succ, List.getElem?_cons_zero, List.map_cons, List.map_nil, List.drop_succ_cons, List.drop_zero]
  repeat (first | ((with_reducible refine wpMix_read ?_ (fun K hK => ?_)); (focus rfl); apply Exists.intro; refine ⟨fun w' hS => ?_, ?_⟩; (focus (try dsimp only at hS; go_simp; try rfl)); go_simp; refine hK _ ?_; clear hK K) | ((with_reducible refine wpMix_yes ?_ (fun K hK => ?_)); (focus (first | (go_simp; done) | (go_simp; simp; done) | (go_simp; intro h; cases h; done))); apply Exists.intro; refine ⟨fun w' hS => ?_, ?_⟩; (focus (try dsimp only at hS; go_simp; try rfl)); go_simp; refine hK _ ?_; clear hK K) | ((with_reducible refine wpMix_no ?_ (fun K hK => ?_)); (focus (first | (go_simp; done) | (go_simp; simp; done) | (go_simp; intro h; cases h; done))); go_simp; refine hK _ ?_; clear hK K) | ((with_reducible refine wpMix_do (fun K hK => ?_)); go_simp; refine hK _ _ (by first | assumption | exact hc) ?_; clear hK K))
  refine wpMix_nil ?_
  go_wp2_with fail
  go_ret2
  exact ⟨w.heap.size, t, B, yg, C, rfl, R.out.1.drew, R.out.2.1, R.out.2.2.drew⟩
end Go.Proofs.YtajojhfialbfkaaGreatDoor
/- Law 18: Same, where there are no volumes. -/
namespace Go.Proofs.YtajojhfialbfkaaGreatDoor
open Go.RowKit
set_option maxRecDepth 100000

theorem ref18_begin (b : Int) (w : World) :
    Calls Tryz.prog 18 #[.int .i64 b] w fun e w' => e = .returned (.agg #[.slice none 0 0, .int .i64 1, .int .i64 b, .int .i64 1]) ∧ Below w.heap.size w w' := by
  go_enter Tryz.func18, Tryz.ntmps18
  go_wp2_with fail
  exact bodyPost_ret (v := .agg #[.slice none 0 0, .int .i64 1, .int .i64 b, .int .i64 1]) (by simp [results, Tryz.results18, go_sem]) rfl ⟨rfl, (Below.refl _ w).alloc (Nat.le_refl _) _⟩

section
variable {w w' : World} {B : HB} {C : CB} {S : HS} {K : KS} {yg : Nat} {gv lv : Value}

set_option maxHeartbeats 2000000 in
theorem l18_same_none (h : CW w B C S K yg gv lv 0 []) (hv : VolsAre K.vols []) (hn : K.next = 1) (t d : Nat) (s : SU) (ht : w.heap[t]? = some (storeObj C.c d s)) (b : Int) :
    Calls Tryz.prog 17 #[.pointer (some ⟨t, 0, none⟩), .agg #[.slice none 0 0, .int .i64 1, .int .i64 b, .int .i64 1]] w fun e w' => e = .returned (.int .i64 0) ∧ Below w.heap.size w w' := by
  have hF0 : Fr (fun _ => False) w (w.alloc (.cells #[.slice none 0 0, .int .i64 1, .int .i64 b, .int .i64 1] 34)) := (Fr.refl _ w).alloc _
  have hb0 := blk_new (w := w) (o := .cells #[.slice none 0 0, .int .i64 1, .int .i64 b, .int .i64 1] 34) rfl
  have ht0 := hF0.blk ht (fun f => f)
  have H := Lib.hid h
  have HV := Lib.hid hv
  have HN := Lib.hid hn
  have HT := Lib.hid ht
  clear h hv hn ht
  go_enter Tryz.func17, Tryz.ntmps17
  go_wp2_with fail
  generalize w.alloc (.cells #[.slice none 0 0, .int .i64 1, .int .i64 b, .int .i64 1] 34) = w0 at *
  have hc0 := cell_blk hb0
  have hct := cell_blk ht0
  have HB0 := Lib.hid hb0
  have HT0 := Lib.hid ht0
  have HF0 := Lib.hid hF0
  clear hb0 ht0 hF0
  refine wp_region_perm 7 (fun w' => (∀ i, w'.cell? ⟨w.heap.size, i, none⟩ = #[.slice none 0 0, .int .i64 1, .int .i64 b, .int .i64 1][i]?) ∧ (∀ i, w'.cell? ⟨t, i, none⟩ = #[.pointer (some ⟨C.c, 0, none⟩), .pointer (some ⟨d, 0, none⟩), .int .u32 (s.epoch : Int), .int .i64 s.journal, .int .i64 s.bits, .int .i64 (s.head : Int), .int .u32 (s.next : Int)][i]?)) [(0, true), (1, true), (2, true), (3, true), (4, true), (5, true), (6, false)] (by kernel_rfl) (by kernel_rfl) ?_ (by intro c a d v w h; cases d <;> exact h) ?_
  · exact ⟨hc0, hct⟩
  simp only [pickOps, List.getElem?_cons_succ, List.getElem?_cons_zero, List.map_cons, List.map_nil, List.drop_succ_cons, List.drop_zero]
  repeat ((with_reducible refine wpMix_read ?_ (fun K hK => ?_)); (focus rfl); apply Exists.intro; refine ⟨fun w' hS => ?_, ?_⟩; (focus (try dsimp only at hS; go_simp; try rfl)); go_simp; refine hK _ ?_; clear hK K)
  refine wpMix_act rfl (fun Kk hK => ?_)
  go_simp
  have hF1 : Fr (fun _ => False) w (w0.alloc (.cells #[.pointer (some ⟨C.c, 0, none⟩), .slice none 0 0, .int .i64 1, .int .i64 b, .int .i64 1] 37)).drew := (HF0.out.alloc _).drew
  have hB1 := blk_drew (blk_alloc (o' := .cells #[.pointer (some ⟨C.c, 0, none⟩), .slice none 0 0, .int .i64 1, .int .i64 b, .int .i64 1] 37) HB0.out)
  have hT1 := blk_drew (blk_alloc (o' := .cells #[.pointer (some ⟨C.c, 0, none⟩), .slice none 0 0, .int .i64 1, .int .i64 b, .int .i64 1] 37) HT0.out)
  have hz1 : w.heap.size < w0.heap.size := lt_of_blk HB0.out
  generalize (w0.alloc (.cells #[.pointer (some ⟨C.c, 0, none⟩), .slice none 0 0, .int .i64 1, .int .i64 b, .int .i64 1] 37)).drew = w1 at *
  refine hK _ _ ⟨cell_blk hB1, cell_blk hT1⟩ ?_; clear hK Kk
  refine wpMix_nil ?_
  have hct1 := cell_blk hT1
  have h1 := H.out.fr_new hF1
  have hen := core_entries h1.co [] HV.out (by simp) (by simp) (sorts_one HV.out (by simp))
  have HEn := Lib.hid hen
  have HF1 := Lib.hid hF1
  have HB1 := Lib.hid hB1
  have HT1 := Lib.hid hT1
  clear hF1 hB1 hT1 h1 hen hz1 hc0 hct
  go_wp2_with fail
  refine HEn.out.mono ?_
  rintro e w2 ⟨v, rfl, hrow, hb2⟩
  obtain ⟨ao, cap, rfl, _, _⟩ := ownsRow_form hrow
  have hF2 : Fr (fun _ => False) w w2 := HF1.out.trans (Fr.of_below hb2) (fun _ _ f => f)
  have hB2 := blk_below HB1.out hb2 (lt_of_blk HB1.out)
  have hT2 := blk_below HT1.out hb2 (lt_of_blk HT1.out)
  have h2 := H.out.fr_new hF2
  have hcb2 := cell_blk hB2
  have hct2 := cell_blk hT2
  have HF2 := Lib.hid hF2
  have H2 := Lib.hid h2
  have HB2 := Lib.hid hB2
  have HT2 := Lib.hid hT2
  clear hrow hb2 hF2 hB2 hT2 h2 hct1
  simp only [List.length_nil]
  go_wp2_with fail
  have hnx := core_next (H2.out.fr_new ((Fr.refl (fun _ => False) w2).drew))
  rw [HN.out] at hnx
  have HNx := Lib.hid hnx
  clear hnx
  refine wp_region_perm 16 (fun w' => (∀ i, w'.cell? ⟨w.heap.size, i, none⟩ = #[.slice none 0 0, .int .i64 1, .int .i64 b, .int .i64 1][i]?) ∧ (∀ i, w'.cell? ⟨t, i, none⟩ = #[.pointer (some ⟨C.c, 0, none⟩), .pointer (some ⟨d, 0, none⟩), .int .u32 (s.epoch : Int), .int .i64 s.journal, .int .i64 s.bits, .int .i64 (s.head : Int), .int .u32 (s.next : Int)][i]?)) [(0, true), (1, true), (2, true), (3, true), (4, true), (5, true), (6, true), (7, true), (8, true), (9, true), (10, true), (13, true), (14, true), (11, false), (12, true), (15, true)] (by kernel_rfl) (by kernel_rfl) ?_ (by intro c a d v w h; cases d <;> exact h) ?_
  · exact ⟨hcb2, hct2⟩
  simp only [pickOps, List.getElem?_cons_succ, List.getElem?_cons_zero, List.map_cons, List.map_nil, List.drop_succ_cons, List.drop_zero]
  repeat (first | ((with_reducible refine wpMix_read ?_ (fun K hK => ?_)); (focus rfl); apply Exists.intro; refine ⟨fun w' hS => ?_, ?_⟩; (focus (try dsimp only at hS; go_simp; try rfl)); go_simp; refine hK _ ?_; clear hK K) | ((with_reducible refine wpMix_yes ?_ (fun K hK => ?_)); (focus (first | (go_simp; done) | (go_simp; simp; done) | (go_simp; intro h; cases h; done))); apply Exists.intro; refine ⟨fun w' hS => ?_, ?_⟩; (focus (try dsimp only at hS; go_simp; try rfl)); go_simp; refine hK _ ?_; clear hK K) | ((with_reducible refine wpMix_no ?_ (fun K hK => ?_)); (focus (first | (go_simp; done) | (go_simp; simp; done) | (go_simp; intro h; cases h; done))); go_simp; refine hK _ ?_; clear hK K) | ((with_reducible refine wpMix_do (fun K hK => ?_)); go_simp; refine hK _ _ (by first | assumption | exact hc) ?_; clear hK K))
  (with_reducible refine wpMix_do (fun Kk hK => ?_))
  go_simp
  refine HNx.out.mono ?_
  rintro e w3 ⟨rfl, rfl⟩
  refine hK _ _ ⟨hcb2, hct2⟩ ?_; clear hK Kk
  repeat (first | ((with_reducible refine wpMix_read ?_ (fun K hK => ?_)); (focus rfl); apply Exists.intro; refine ⟨fun w' hS => ?_, ?_⟩; (focus (try dsimp only at hS; go_simp; try rfl)); go_simp; refine hK _ ?_; clear hK K) | ((with_reducible refine wpMix_yes ?_ (fun K hK => ?_)); (focus (first | (go_simp; done) | (go_simp; simp; done) | (go_simp; intro h; cases h; done))); apply Exists.intro; refine ⟨fun w' hS => ?_, ?_⟩; (focus (try dsimp only at hS; go_simp; try rfl)); go_simp; refine hK _ ?_; clear hK K) | ((with_reducible refine wpMix_no ?_ (fun K hK => ?_)); (focus (first | (go_simp; done) | (go_simp; simp; done) | (go_simp; intro h; cases h; done))); go_simp; refine hK _ ?_; clear hK K) | ((with_reducible refine wpMix_do (fun K hK => ?_)); go_simp; refine hK _ _ (by first | assumption | exact hc) ?_; clear hK K))
  refine wpMix_nil ?_
  go_wp2_with fail
  refine wp_loop_rounds 1 ?_
  rw [rounds_succ]
  go_wp2_with fail
  go_ret
  exact ⟨rfl, (HF2.out.below (fun _ _ f => f.elim) (Nat.le_refl _)).drew⟩
end
end Go.Proofs.YtajojhfialbfkaaGreatDoor
/- Law 18: awake: what the document fixes. -/
namespace Go.Proofs.YtajojhfialbfkaaGreatDoor
open Go.RowKit
set_option maxRecDepth 100000

theorem fresh_gok (a n : Nat) (ha : a ≤ 4096) (hn : n ≤ 4096) : (GS.fresh a n).ok := by
  refine ⟨?_, ?_, ha⟩
  · intro x hx
    unfold GS.fresh at hx
    simp only at hx
    have := List.eq_of_mem_replicate hx
    omega
  · simp [GS.fresh]; omega
theorem fresh_ok (D : DS) (a : Nat) (ha : a ≤ D.l.length) (hn : D.l.length ≤ 4096) : (HS.fresh D a).ok :=
  ⟨fresh_gok a _ (by omega) hn, by show a + (List.replicate (D.l.length - a) 0).length ≤ D.l.length; rw [List.length_replicate]; omega, hn⟩
theorem fresh_count (D : DS) (a : Nat) : (HS.fresh D a).G.l.count 0 = D.l.length - a := by
  show (List.replicate (D.l.length - a) 0).count 0 = _
  simp
theorem fresh_first (D : DS) (a : Nat) (ha : a < D.l.length) : (HS.fresh D a).G.first = a := by
  show a + (List.replicate (D.l.length - a) 0).idxOf 0 = a
  obtain ⟨m, hm⟩ : ∃ m, D.l.length - a = m + 1 := ⟨D.l.length - a - 1, by omega⟩
  rw [hm, List.replicate_succ]
  simp

abbrev awE : EN := ⟨1, 0, false, 3, 0, 1⟩
theorem awE_vols : VolsAre (mput (fun _ => none) 1 (some awE)) [awE] := by
  refine ⟨List.pairwise_singleton _ _, fun a => ?_⟩
  unfold mput
  by_cases h : a = 1
  · subst h; rfl
  · simp only [h, if_false, List.find?_cons]
    have : ((1 : Nat) == a) = false := by simp; omega
    rw [this]; rfl

theorem enters_commit (a : Value) : Enters 44 (#[a] ++ #[]) := fun w => by simp [go_sem]

set_option maxHeartbeats 4000000 in
theorem l18_awake (w : World) :
    Calls Tryz.prog 11 #[] w fun e w' => e = .returned (.bool true) ∧ Below w.heap.size w w' := by
  have hbg := l18_begin 60 (by decide) (by decide) 4 256 (by decide) w
  have HBg := Lib.hid hbg
  clear hbg
  go_enter Tryz.func11, Tryz.ntmps11
  go_wp2_with fail
  refine HBg.out.mono ?_
  rintro e w1 ⟨d, t, B, yg, C, rfl, hat, hlow, hb1⟩
  have hcal := format_calm (DS.calm_fresh 60) ((4 : Nat) : Int) ((256 : Nat) : Int)
  have hD : ((DS.fresh 60).format ((4 : Nat) : Int) ((256 : Nat) : Int)).l.length = 60 := by rw [format_len, DS.fresh_len]
  have h1 := hat.cw
  have h6 : (2 + (newSU ((4 : Nat) : Int) ((256 : Nat) : Int)).journal).toNat = 6 := by decide
  have hK : KS.none (newSU ((4 : Nat) : Int) ((256 : Nat) : Int)).bits.toNat (newSU ((4 : Nat) : Int) ((256 : Nat) : Int)).next (newSU ((4 : Nat) : Int) ((256 : Nat) : Int)).epoch = KS.none 256 1 1 := rfl
  rw [h6, hK] at h1
  have hBd := hat.hd
  have ht1 : w1.heap[t]? = some (.cells #[.pointer (some ⟨C.c, 0, none⟩), .pointer (some ⟨d, 0, none⟩), .int .u32 1, .int .i64 4, .int .i64 256, .int .i64 0, .int .u32 1] 71 (0, 0)) := hat.ht
  clear hat h6 hK
  generalize (DS.fresh 60).format ((4 : Nat) : Int) ((256 : Nat) : Int) = DD at h1 hD hcal
  have hct1 := cell_blk ht1
  have hen := core_entries h1.co [] vols_none (by simp) (by simp) (sorts_one vols_none (by simp))
  have HEn := Lib.hid hen
  have H1 := Lib.hid h1
  have HT1 := Lib.hid ht1
  have HLow := Lib.hid hlow
  have HB1 := Lib.hid hb1
  have HD := Lib.hid (And.intro hD hcal)
  have HBd := Lib.hid hBd
  clear h1 ht1 hen hBd hlow hb1 hD hcal
  go_wp2_with fail
  refine HEn.out.mono ?_
  rintro e w2 ⟨v, rfl, hrow, hb2⟩
  obtain ⟨ao, cap, rfl, _, _⟩ := ownsRow_form hrow
  have hF2 : Fr (fun _ => False) w1 w2 := Fr.of_below hb2
  have h2 := H1.out.fr_new hF2
  have ht2 := hF2.blk HT1.out (fun f => f)
  have hct2 := cell_blk ht2
  have H2 := Lib.hid h2
  have HT2 := Lib.hid ht2
  have HG2 := Lib.hid (show Fr (fun k => CF B C yg (.slice none 0 0) k ∨ k = t) w1 w2 from hF2.mono (fun _ _ f => f.elim))
  clear hrow hb2 hF2 h2 ht2 hct1
  simp only [List.length_nil]
  go_wp2_with fail
  have hD := HD.out.1
  have ok : (HS.fresh DD 6).ok := fresh_ok _ _ (by omega) (by omega)
  have hcnt : (HS.fresh DD 6).G.l.count 0 = 54 := by rw [fresh_count, hD]
  have hff : (HS.fresh DD 6).G.first = 6 := fresh_first _ _ (by omega)
  have hGl : (HS.fresh DD 6).G.l.length = 54 := by show (List.replicate _ 0).length = _; rw [List.length_replicate, hD]
  have hDl : (HS.fresh DD 6).D.l.length = 60 := hD
  have hDc : (HS.fresh DD 6).D.calm := HD.out.2
  have hS0 : (HS.fresh DD 6).gone = [] := rfl
  have HSt := Lib.hid (And.intro ok (And.intro hcnt (And.intro hff (And.intro hGl (And.intro hDl (And.intro hDc hS0))))))
  clear hD ok hcnt hff hGl hDl hDc hS0
  generalize HS.fresh DD 6 = S at *
  have hcr := core_create_ok H2.out HSt.out.1.gok HSt.out.2.2.2.2.2.2 [] vols_none (by decide) (by rw [HSt.out.2.1]; decide) (by decide) 3 (by decide) (by decide)
  have HCr := Lib.hid hcr
  clear hcr
  refine HCr.out.mono ?_
  rintro e w3 ⟨rfl, h3, hF3⟩
  have hnt : ¬ CF B C yg (.slice none 0 0) t := H2.out.not_CF HT2.out (by decide) (H2.out.hw.not_alien (.inl ⟨_, _, HT2.out, by decide⟩))
  have ht3 := hF3.blk HT2.out hnt
  have HG3 := Lib.hid (HG2.out.trans hF3 (fun k _ f => .inl f))
  have H3 := Lib.hid h3
  have HT3 := Lib.hid ht3
  have hct3 := cell_blk ht3
  clear h3 hF3 hnt ht3 hct2
  go_wp2_with fail
  refine (guard_any 44 #[.pointer (some ⟨t, 0, none⟩)] #[] (enters_commit _) w3
    (fun o w' => o = none ∧ w'.heap[w3.heap.size]? = some errObj ∧ w'.heap[t]? = some (.cells #[.pointer (some ⟨C.c, 0, none⟩), .pointer (some ⟨d, 0, none⟩), .int .u32 2, .int .i64 4, .int .i64 256, .int .i64 6, .int .u32 2] 71 (0, 0)) ∧ Fr (fun k => CF B C yg (.slice none 0 0) k ∨ k = t) w3 w') ?_).mono ?_
  · have hF : Fr (fun _ => False) w3 (w3.alloc errObj) := (Fr.refl _ w3).alloc _
    have hq := blk_new (w := w3) (o := errObj) rfl
    have h4 := H3.out.fr_new hF
    have ht4 := hF.blk HT3.out (fun f => f)
    obtain ⟨ok, hcnt, hff, hGl, hDl, hDc, hS0⟩ := HSt.out
    have ok2 : ({ S with keep := 2 * (([] : List EN).length + 1) } : HS).ok := ⟨ok.gok, ok.end_, ok.dl⟩
    have hhead : ({ S with keep := 2 * (([] : List EN).length + 1) } : HS).headOf [awE] = 6 := hff
    have hcm := store_commit h4 ok2 hS0 hDc (by show 0 < S.D.l.length; omega) (by show 0 < S.G.l.length; omega) [awE] awE_vols (by simp)
      (by intro E hE; simp at hE; subst hE; exact ⟨by decide, by decide, by decide, by decide, by decide⟩) (by show 1 ≤ S.G.l.count 0; omega) (sorts_one awE_vols (by simp))
      t ⟨1, 4, 256, 0, 1⟩ rfl (by decide) (by rw [hhead]; exact ⟨by decide, by decide, by decide, by decide, by decide, by decide, by decide⟩)
      (by rw [hhead]; show suCheck _ ((S.D.l.length : Nat) : Int) = 0; rw [hDl]; decide) (by rw [ht4, HBd.out]; rfl)
    rw [hhead] at hcm
    refine hcm.mono ?_
    rintro e w5 ⟨rfl, ⟨yg5, h5⟩, ht5, hF5⟩
    have hq5 : w5.heap[w3.heap.size]? = some errObj := hF5.blk hq (by
      rintro (f | e)
      · exact h4.not_CF hq (by decide) (h4.hw.not_alien (.inl ⟨_, _, hq, by decide⟩)) f
      · exact ne_blk hq ht4 (by decide) e)
    refine ⟨hq5, .inl ⟨rfl, rfl, hq5, ?_, (hF.mono (fun _ _ f => f.elim)).trans hF5 (fun _ _ f => f)⟩⟩
    rw [ht5, HBd.out]; rfl
  rintro e w5 ⟨o, w4, rfl, ⟨rfl, hq, ht4, hF4⟩, hF5⟩
  have ht5 := hF5.blk ht4 (ne_blk ht4 hq (by decide))
  have hct5 := cell_blk ht5
  have hbw : Below w.heap.size w w5 := by
    have hz1 := HB1.out.size
    have hz3 := HG3.out.size
    exact (HB1.out.trans ((HG3.out.trans hF4 (fun _ _ f => f)).below (B := w.heap.size) (fun k _ f => HLow.out k f) hz1)).trans (hF5.below (B := w.heap.size) (fun k _ e => by omega) (by have := hF4.size; omega))
  have HBw := Lib.hid hbw
  clear hq ht4 hF4 hF5 ht5 hct3 hbw
  simp only [Option.getD_none]
  go_wp2_with fail
  go_ret
  exact ⟨rfl, HBw.out⟩
end Go.Proofs.YtajojhfialbfkaaGreatDoor
/- Law 18: StoreFormats: the walk. -/
namespace Go.Proofs.YtajojhfialbfkaaGreatDoor
open Go.RowKit
set_option maxRecDepth 100000

theorem and15i (x : Int) : ∃ n : Nat, n < 16 ∧ bits .and .i64 x 15 = (n : Int) := by
  have h : (BitVec.ofInt 64 x &&& BitVec.ofInt 64 15).toNat < 16 := by
    rw [BitVec.toNat_and]
    have := Nat.and_le_right (n := (BitVec.ofInt 64 x).toNat) (m := (BitVec.ofInt 64 15).toNat)
    have e : (BitVec.ofInt 64 15).toNat = 15 := by decide
    omega
  refine ⟨(BitVec.ofInt 64 x &&& BitVec.ofInt 64 15).toNat, h, ?_⟩
  show IntKind.i64.wrap (((BitVec.ofInt 64 x &&& BitVec.ofInt 64 15).toNat : Nat) : Int) = _
  exact IntWalk.i64_in _ (by omega)

theorem loose_sync (D : DS) (n : Nat) : looseTo D.sync.l n = [] := by
  unfold looseTo
  rw [List.filter_eq_nil_iff]
  intro i _
  unfold DS.sync
  rw [List.getElem?_map]
  cases D.l[i]? with
  | none => simp
  | some x => simp [notSure]

/-- The junk as its cells say: where, and what. -/
structure JunkAt (w : World) (ao : Option Addr) (len : Nat) (at_ : Nat → Int) (s : Nat → ByteArray) : Prop where
  base : 0 < len → ∃ b off, ao = some ⟨b, off, none⟩ ∧ b < w.heap.size ∧ ∀ k, k < len → w.cell? ⟨b, off + k * 5 + 1, none⟩ = some (.int .i64 (at_ k)) ∧ w.cell? ⟨b, off + k * 5 + 3, none⟩ = some (.string (s k))
  size : ∀ k, k < len → (s k).size ≤ 140737488355328

theorem JunkAt.below {w w' : World} {ao : Option Addr} {len : Nat} {at_ : Nat → Int} {s : Nat → ByteArray} (h : JunkAt w ao len at_ s) (hb : Below w.heap.size w w') : JunkAt w' ao len at_ s := by
  refine ⟨fun h0 => ?_, h.size⟩
  obtain ⟨b, off, e, hlt, hc⟩ := h.base h0
  exact ⟨b, off, e, Nat.lt_of_lt_of_le hlt hb.size, fun k hk => ⟨(hb.cell (p := ⟨b, _, none⟩) hlt).trans (hc k hk).1, (hb.cell (p := ⟨b, _, none⟩) hlt).trans (hc k hk).2⟩⟩

set_option maxHeartbeats 4000000 in
theorem store_formats (n j b : Int) (ao : Option Addr) (len cap : Nat) (at_ : Nat → Int) (s : Nat → ByteArray) (w : World) (hn : (-9223372036854775808 : Int) ≤ n ∧ n ≤ 9223372036854775807) (hlen : len ≤ 9223372036854775807) (hJ : JunkAt w ao len at_ s) :
    Calls Tryz.prog 4 #[.int .i64 n, .int .i64 j, .int .i64 b, .slice ao len cap] w fun e w' => e = .returned (.bool true) ∧ Below w.heap.size w w' := by
  obtain ⟨N, hN⟩ : ∃ N : Nat, N = (min (max n 0) 4096).toNat := ⟨_, rfl⟩
  have hN2 : min (max n 0) 4096 = (N : Int) := by omega
  have hN3 : N ≤ 4096 := by omega
  have HAw := Lib.hid (l18_awake w)
  have HN := Lib.hid hN3
  have HJ := Lib.hid hJ
  clear hN hN3 hJ hn
  go_enter Tryz.func4, Tryz.ntmps4
  go_wp2_with fail
  refine HAw.out.mono ?_
  rintro e w1 ⟨rfl, hb1⟩
  have hJ1 := HJ.out.below hb1
  have hdn := disk_new (N : Int) ⟨by omega, by have := HN.out; omega⟩ w1
  rw [show (min (max (N : Int) 0) 4096).toNat = N by have := HN.out; omega] at hdn
  have HDn := Lib.hid hdn
  have HJ1 := Lib.hid hJ1
  have HB1 := Lib.hid hb1
  clear hb1 hJ1 hdn
  go_wp2_with fail
  refine HDn.out.mono ?_
  rintro e w2 ⟨rfl, sv, hd, hb2, hlo⟩
  have hJ2 := HJ1.out.below hb2
  have HB2 := Lib.hid (HB1.out.trans (hb2.mono HB1.out.size))
  have HLo := Lib.hid (show ∀ k, DiskF w1.heap.size sv k → w1.heap.size ≤ k from fun k f => f.elim (fun e => by omega) (fun e => hlo k e))
  have HD := Lib.hid hd
  have HJ2 := Lib.hid hJ2
  have hz1 : w.heap.size ≤ w1.heap.size := HB1.out.size
  have HZ := Lib.hid hz1
  clear hd hb2 hlo hJ2 hz1
  go_wp2_with fail
  go_loopw [10] (fun i wr => ∃ k : Nat, k ≤ len ∧ k ≤ 10 ∧ i = .int .i64 (k : Int) ∧ JunkAt wr ao len at_ s ∧ Below w.heap.size w wr ∧ ∃ D, D.calm ∧ D.whole ∧ D.l.length = N ∧ DiskAt wr w1.heap.size sv D) (fun i _ => 10 - (intOf i).toNat)
  case atStart => exact ⟨0, Nat.zero_le _, by decide, rfl, HJ2.out, HB2.out, DS.fresh N, DS.calm_fresh N, whole_fresh N, DS.fresh_len N, HD.out⟩
  case round =>
    obtain ⟨k, hk, hk10, rfl, hJ, hB, D, hcal, hwh, hl, hd⟩ := hrel
    have HJr := Lib.hid hJ
    have HBr := Lib.hid hB
    have HDr := Lib.hid (And.intro hcal (And.intro hwh (And.intro hl hd)))
    clear hJ hB hcal hwh hl hd
    by_cases hc : k < len ∧ k < 10
    · obtain ⟨hklen, hkt⟩ := hc
      obtain ⟨bb, off, rfl, hbb, hcs⟩ := HJr.out.base (by omega)
      obtain ⟨c1, c3⟩ := hcs k hklen
      obtain ⟨at15, hat, hae⟩ := and15i (at_ k)
      have hss := HJr.out.size k hklen
      have HSs := Lib.hid hss
      have HAt := Lib.hid hat
      generalize at_ k = ak at *
      generalize s k = sk at *
      clear hcs hss hat hk hk10
      go_wp2_with fail
      have hkm : (k : Int) < 10 := by omega
      refine wp_region_perm 12 (fun w' => w'.cell? ⟨bb, off + k * 5 + 1, none⟩ = some (.int .i64 ak) ∧ w'.cell? ⟨bb, off + k * 5 + 3, none⟩ = some (.string sk)) [(0, true), (1, true), (2, true), (3, true), (4, true), (5, true), (6, true), (7, true), (8, true), (9, true), (10, true), (11, true)] (by kernel_rfl) (by kernel_rfl) ?_ (by intro c a d v w h; cases d <;> exact h) ?_
      · exact ⟨c1, c3⟩
      simp only [pickOps, List.getElem?_cons_succ, List.getElem?_cons_zero, List.map_cons, List.map_nil, List.drop_succ_cons, List.drop_zero]
      repeat ((with_reducible refine wpMix_read ?_ (fun K hK => ?_)); (focus rfl); apply Exists.intro; refine ⟨fun w' hS => ?_, ?_⟩; (focus (try dsimp only at hS; go_simp; try rfl)); go_simp; refine hK _ ?_; clear hK K)
      refine wpMix_nil ?_
      have hwr := l4_write2 (HDr.out.2.2.2.drew) HDr.out.1 HDr.out.2.1 at15 sk HSs.out
      have HWr := Lib.hid hwr
      clear hwr c1 c3
      go_wp2_with fail
      refine HWr.out.mono ?_
      rintro e w3 ⟨⟨m, rfl⟩, ⟨D', q1, q2, q3, q4⟩, hF3⟩
      have hF3 : Fr (DiskF w1.heap.size sv) wr w3 := ((Fr.refl (DiskF w1.heap.size sv) wr).drew).trans hF3 (fun _ _ f => f)
      have hz := HBr.out.size
      have hz1 := HZ.out
      have hb3 : Below w.heap.size wr w3 := hF3.below (fun x _ f => by have := HLo.out x f; omega) hz
      have R := Lib.hid (show JunkAt w3 (some ⟨bb, off, none⟩) len at_ s ∧ Below w.heap.size w w3 ∧ ∃ D, D.calm ∧ D.whole ∧ D.l.length = N ∧ DiskAt w3 w1.heap.size sv D from by
        exact ⟨HJ.out.below (HBr.out.trans hb3), HBr.out.trans hb3, D', q1, q2, by rw [q3, HDr.out.2.2.1], q4⟩)
      clear hF3 q1 q2 q3 q4 hz hz1 hb3
      go_wp2_with fail
      go_roundw
      case rel => exact ⟨k + 1, hklen, by omega, by go_num, R.out.1, R.out.2.1, R.out.2.2⟩
      case measure => simp [intOf]; omega
    · have hex : len ≤ k ∨ k = 10 := by omega
      have hl4 := HDr.out.2.2.1
      have hN4 := HN.out
      have hf := l18_format HDr.out.2.2.2 HDr.out.1 (by omega) j b
      rw [hl4] at hf
      have HFm := Lib.hid hf
      have HRf := fun W => Lib.hid (ref18_format N HN.out j b W)
      clear hf hl4 hN4 hc
      obtain ⟨c, hcq⟩ : ∃ c, suCheck (newSU j b) (N : Int) = c := ⟨_, rfl⟩
      rw [hcq] at HFm HRf
      have HCq := Lib.hid hcq
      clear hcq
      have hcase : (k < len ∧ k = 10) ∨ len ≤ k := by omega
      rcases hcase with ⟨hkl, rfl⟩ | hkl
      all_goals
        clear hex hk10
        go_wp2_with fail
        refine HFm.out.mono ?_
        rintro e w3 ⟨rfl, hd3, hF3⟩
        have hb3 : Below w.heap.size w w3 := HBr.out.trans (hF3.below (fun x _ f => by have := HLo.out x f; have := HZ.out; omega) HBr.out.size)
        have HB3 := Lib.hid hb3
        have HD3 := Lib.hid hd3
        clear hb3 hd3 hF3
        go_wp2_with fail
        refine (HRf w3).out.mono ?_
        rintro e w4 ⟨rfl, hb4⟩
        have hz3 := HB3.out.size
        have HB4 := Lib.hid (HB3.out.trans (hb4.mono hz3))
        by_cases hc0 : c = 0
        · subst hc0
          have hd4 : DiskAt w4 w1.heap.size sv (D.format j b) := by
            have h := HD3.out
            unfold FormatEnd at h
            rw [HDr.out.2.2.1, if_pos HCq.out] at h
            exact h.fr (Fr.of_below (F := fun _ => False) hb4) (fun _ _ f => f)
          have hq := suCheck_zero HCq.out
          have q1 := hq.1
          unfold suBad newSU at q1
          simp only [Bool.or_eq_false_iff, decide_eq_false_iff_not] at q1
          have q3 : 2 + j + 32 ≤ (N : Int) := hq.2.2
          obtain ⟨J, rfl⟩ : ∃ J : Nat, j = (J : Int) := ⟨j.toNat, by omega⟩
          obtain ⟨bn, rfl⟩ : ∃ bn : Nat, b = (bn : Int) := ⟨b.toNat, by omega⟩
          have hlen2 : (D.format J bn).l.length = N := by rw [format_len, HDr.out.2.2.1]
          have hop := l18_open0 hd4 (format_calm HDr.out.1 _ _) (whole_format HDr.out.2.1 HDr.out.1 _ _) (by rw [hlen2]; exact HN.out) (newSU J bn) (read_format HDr.out.1 _ _ (by rw [HDr.out.2.2.1]; exact HCq.out)) (by rw [hlen2]; exact HCq.out) rfl (show 1 < 4294967296 by decide)
          have HOp := Lib.hid hop
          have hJr : J ≤ 512 ∧ 2 + J + 32 ≤ N := ⟨by omega, by omega⟩
          have HJr := Lib.hid hJr
          have HL2 := Lib.hid hlen2
          have HD4 := Lib.hid hd4
          clear hd4 hq q1 q3 hlen2 hop hJr hb4 hz3
          go_wp2_with fail
          refine HOp.out.mono ?_
          rintro e w5 ⟨t, B, yg, C, rfl, hat, hlow, hb5⟩
          have hz4 := HB4.out.size
          have HB5 := Lib.hid (HB4.out.trans (hb5.mono hz4))
          have hcw := hat.cw
          have ht5 : w5.heap[t]? = some (.cells #[.pointer (some ⟨C.c, 0, none⟩), .pointer (some ⟨w1.heap.size, 0, none⟩), .int .u32 1, .int .i64 (J : Int), .int .i64 (bn : Int), .int .i64 0, .int .u32 1] 71 (0, 0)) := hat.ht
          have HRb := fun W => Lib.hid (ref18_begin (bn : Int) W)
          have hd5 := HD4.out.fr (Fr.of_below (F := fun _ => False) hb5) (fun _ _ f => f)
          have HD5 := Lib.hid hd5
          have HCw := Lib.hid hcw
          have HT5 := Lib.hid ht5
          clear hat hlow hb5 hz4 hcw ht5 hd5
          go_wp2_with fail
          refine (HRb w5).out.mono ?_
          rintro e w6 ⟨rfl, hb6⟩
          have hF6 : Fr (fun _ => False) w5 w6 := Fr.of_below hb6
          have hsm := l18_same_none (HCw.out.fr_new hF6) vols_none rfl t w1.heap.size (newSU J bn) (hF6.blk HT5.out (fun f => f)) (bn : Int)
          have HSm := Lib.hid hsm
          have hz5 := HB5.out.size
          have HF6 := Lib.hid hF6
          have HB6 := Lib.hid (HB5.out.trans (hb6.mono hz5))
          clear hb6 hF6 hsm hz5
          go_wp2_with fail
          refine HSm.out.mono ?_
          rintro e w7 ⟨rfl, hb7⟩
          have hF7 : Fr (fun _ => False) w5 w7 := HF6.out.trans (Fr.of_below hb7) (fun _ _ f => f)
          have hct7 := cell_blk (hF7.blk HT5.out (fun f => f))
          have hz6 := HB6.out.size
          have HF7 := Lib.hid hF7
          have HB7 := Lib.hid (HB6.out.trans (hb7.mono hz6))
          clear hb7 hF7 hz6
          go_wp2_with fail
          have hj5 : (J : Int) ≤ 512 := by have := HJr.out.1; omega
          go_loopw [102] (fun i wq => ∃ q : Nat, q ≤ J ∧ i = .int .i64 (q : Int) ∧ Below w7.heap.size w7 wq) (fun i _ => J - (intOf i).toNat)
          case atStart => exact ⟨0, Nat.zero_le _, rfl, Below.refl _ _⟩
          case round =>
            obtain ⟨q, hq, rfl, hbq⟩ := hrel
            have HBq := Lib.hid hbq
            have hFq : Fr (fun _ => False) w5 _ := HF7.out.trans (Fr.of_below hbq) (fun _ _ f => f)
            have HFq := Lib.hid hFq
            clear hbq hFq
            rcases Nat.lt_or_ge q J with hqJ | hqJ
            · have hnow := now_format HDr.out.1 (J : Int) (bn : Int) (by omega) (by rw [HDr.out.2.2.1]; have := HJr.out.2; omega) (2 + q) (by omega)
              rw [if_neg (by omega)] at hnow
              have hk2 : 2 + q < (D.format J bn).l.length := by rw [HL2.out]; have := HJr.out.2; omega
              have hval : (D.format J bn).l[2 + q].2 = bstr (zeros 64) := by
                unfold DS.now at hnow
                rw [List.getElem?_eq_getElem hk2] at hnow
                exact Option.some.inj hnow
              have hrd := l4_read (HD5.out.fr HFq.out (fun _ _ f => f)) (format_calm HDr.out.1 _ _).2.1 (2 + q) hk2
              rw [hval] at hrd
              have hcast : (((2 + q : Nat)) : Int) = 2 + (q : Int) := by omega
              rw [hcast] at hrd
              have HRd := Lib.hid hrd
              have hix : ∀ W, (Instr.index 9 (.string (bstr (zeros 64))) (.int .i64 0)).run Tryz.prog W = .ok (.int .u8 0) W := fun W => by kernel_rfl
              generalize bstr (zeros 64) = Z at *
              clear hnow hk2 hval hrd hcast
              go_wp2_with fail
              refine HRd.out.mono ?_
              rintro e w8 ⟨rfl, hb8⟩
              have HB8 := Lib.hid (HBq.out.trans (hb8.mono HBq.out.size))
              clear hb8
              go_wp2_with fail
              go_roundw
              case rel => exact ⟨q + 1, hqJ, by go_num, HB8.out⟩
              case measure => simp [intOf]; omega
            · have hqe : q = J := by omega
              subst hqe
              have hdk := HD5.out.fr HFq.out (fun _ _ f => f)
              have hls := disk_loose hdk (by rw [HL2.out]; have := HJr.out.2; omega) (by rw [HL2.out]; exact HN.out)
              have hl0 : looseTo (D.format q bn).l (D.format q bn).l.length = [] := loose_sync _ _
              rw [hl0] at hls
              have HLs := Lib.hid hls
              have hcwq := HCw.out.fr_new HFq.out
              have hcc := cell_blk hcwq.co.hc
              have HCq2 := Lib.hid hcwq
              have hct8 := cell_blk (HFq.out.blk HT5.out (fun f => f))
              have hN5 := HN.out
              have hJ5 := HJr.out.2
              have hcnt : (HS.fresh (D.format q bn) (2 + (newSU q bn).journal).toNat).G.l.count 0 = N - (2 + q) := by
                rw [fresh_count, HL2.out]
                show N - (2 + (q : Int)).toNat = _
                omega
              have HCnt := Lib.hid hcnt
              clear hdk hls hl0 hcwq hcnt
              go_wp2_with fail
              refine HLs.out.mono ?_
              rintro e w8 ⟨v, rfl, hrow, hb8⟩
              obtain ⟨vo, vc, rfl, _, _⟩ := ownsRow_form hrow
              have hFr8 : Fr (fun _ => False) wr w8 := Fr.of_below hb8
              have hct9 := cell_blk (hFr8.blk (HFq.out.blk HT5.out (fun f => f)) (fun f => f))
              have h8 := HCq2.out.fr_new hFr8
              have hcc8 := cell_blk h8.co.hc
              have hfr := heap_free h8.hw
              rw [HCnt.out] at hfr
              have HFr := Lib.hid hfr
              have HBw := Lib.hid (HB7.out.trans ((HBq.out.trans (hb8.mono HBq.out.size)).mono HB7.out.size))
              clear hrow hb8 hFr8 h8 hfr hcc hct8
              simp only [List.length_nil]
              go_wp2_with fail
              obtain ⟨fr, hfre⟩ : ∃ fr, N - (2 + q) = fr := ⟨_, rfl⟩
              rw [hfre] at HFr
              have hN6 : (N : Int) ≤ 4096 := by omega
              have hev : ((fr : Int) == (N : Int) - 2 - (q : Int)) = true := by rw [beq_iff_eq]; omega
              clear hfre
              refine HFr.out.mono ?_
              rintro e w9 ⟨rfl, rfl⟩
              go_wp2_with fail
              go_ret
              exact ⟨rfl, HBw.out⟩
        · have hcb : (c == 0) = false := by simpa using hc0
          clear hc0 hb4 hz3
          go_wp2_with fail
          go_ret
          exact ⟨rfl, HB4.out⟩
end Go.Proofs.YtajojhfialbfkaaGreatDoor
namespace Go.Proofs.YtajojhfialbfkaaGreatDoor
set_option maxRecDepth 100000
open Go.ChangeShapes Go.WideShapes Go.ChangeAt Go.RowKit Go.Deep

theorem own18 : ownKnob Tryz.prog.godebug = none := by kernel_rfl
theorem laidOut18 : laidOutB Tryz.prog = true := by kernel_rfl

theorem weights_all {H : Type} {P : Program} {e : TypeId} {d : DataW H} {n : Nat} : ∀ {l : List (DataW H)}, d ∈ l → n ∈ d.weights P e → n ∈ DataW.weightsAll P e l
  | d0 :: l, hd, hn => by
    simp only [DataW.weightsAll, List.mem_append]
    rcases List.mem_cons.1 hd with rfl | hd
    · exact .inl hn
    · exact .inr (weights_all hd hn)

/-- The junk as it came in: its cells; each text's length is one of its weights. -/
theorem open_junk {H : Type} {enc : TypeId × Value → H} {w : World} {base : Nat} {spare : Nat → Bool} {held : Bool} {fuel : Nat} {ao : Option Addr} {len cap : Nat} {x : DataW H × List MemPlace}
    (h : DataW.trod enc Tryz.prog w base spare held fuel 54 [.slice ao len cap] = some x) (hsz : ∀ n ∈ x.1.weights Tryz.prog 54, n ≤ reachBytes) :
    len ≤ maxLen ∧ ∃ (at_ : Nat → Int) (s : Nat → ByteArray), JunkAt w ao len at_ s := by
  rcases open_slice Tryz.underlying54 h with ⟨hcs, _⟩ | ⟨a, len', cap', m, n, D, Pl, hcs, hb, hl, hm, hmm, hx, hi⟩
  · simp only [List.cons.injEq, Value.slice.injEq, and_true] at hcs
    obtain ⟨rfl, rfl, rfl⟩ := hcs
    exact ⟨Nat.zero_le _, fun _ => 0, fun _ => ByteArray.empty, fun h0 => absurd h0 (by omega), fun k hk => absurd hk (by omega)⟩
  · simp only [List.cons.injEq, Value.slice.injEq, and_true] at hcs
    obtain ⟨rfl, rfl, rfl⟩ := hcs
    refine ⟨Nat.le_trans hl hm, ?_⟩
    have hC : Tryz.prog.cellsOf 60 = 5 := by kernel_rfl
    have hc3 : Tryz.prog.cellsOf 3 = 1 := by kernel_rfl
    have hc9 : Tryz.prog.cellsOf 9 = 1 := by kernel_rfl
    have hlm : len ≤ m := by rw [hmm]; split <;> omega
    have key : ∀ k, k < len → ∃ p : Int × ByteArray, w.cell? (a.add (k * 5 + 1)) = some (.int .i64 p.1) ∧ w.cell? (a.add (k * 5 + 3)) = some (.string p.2) ∧ p.2.size ≤ 140737488355328 := by
      intro k hk
      obtain ⟨cs', hcell, ht⟩ := hi k (by omega)
      rw [hC] at hcell
      obtain ⟨ys, n', _, hy, hlen, hyl, hf⟩ := DataW.trod_struct Tryz.underlying60 ht
      obtain ⟨_, hcl, hat⟩ := World.cells?_some hcell
      simp only [Prod.mk.injEq] at hy
      have h1 : DataW.trod enc Tryz.prog w base spare held n' 3 ((cs'.drop 1).take (Tryz.prog.cellsOf 3)) = ys[1]? := hf 1 _ rfl
      have h3 : DataW.trod enc Tryz.prog w base spare held n' 9 ((cs'.drop 3).take (Tryz.prog.cellsOf 9)) = ys[3]? := hf 3 _ rfl
      rw [hc3] at h1
      rw [hc9] at h3
      match cs', hcl with
      | [v0, v1, v2, v3, v4], _ =>
        match ys, hyl with
        | [y0, y1, y2, y3, y4], _ =>
          have h1 : DataW.trod enc Tryz.prog w base spare held n' 3 [v1] = some y1 := h1
          have h3 : DataW.trod enc Tryz.prog w base spare held n' 9 [v3] = some y3 := h3
          obtain ⟨z, e1, _, _⟩ := DataW.trod_int Tryz.underlying3 h1
          obtain ⟨s, e3, r3, _⟩ := DataW.trod_string Tryz.underlying9 h3
          simp only [List.cons.injEq, and_true] at e1 e3
          subst e1 e3 r3
          have g1 := hat 1 (by omega)
          have g3 := hat 3 (by omega)
          rw [add_add] at g1 g3
          refine ⟨(z, s), g1, g3, ?_⟩
          have hmem : s.data.toList.length ∈ (D k).weights Tryz.prog 60 := by
            rw [hy.1]
            simp only [DataW.weights, Tryz.underlying60]
            exact DataW.weights_mem_each (j := 3) (t := 9) rfl rfl _ (by simp [DataW.weights])
          have hw : s.data.toList.length ∈ x.1.weights Tryz.prog 54 := by
            rw [hx]
            simp only [DataW.weights, Tryz.underlying54]
            exact List.mem_cons_of_mem _ (List.mem_append_left _ (weights_all (List.mem_map.2 ⟨k, List.mem_range.2 hk, rfl⟩) hmem))
          have := hsz _ hw
          have hr := reachBytes_lt
          have e : s.data.toList.length = s.size := rfl
          show s.size ≤ 140737488355328
          omega
    obtain ⟨f, hf⟩ := choose_lt (α := Int × ByteArray) key
    refine ⟨fun k => (f k).1, fun k => (f k).2, fun h0 => ?_, fun k hk => (hf k hk).2.2⟩
    obtain ⟨b, off, spot⟩ := a
    obtain ⟨cs0, hcell0, ht0⟩ := hi 0 (by omega)
    rw [hC] at hcell0
    obtain ⟨_, hcl0, hat0⟩ := World.cells?_some hcell0
    have g0 := hat0 0 (by omega)
    rw [List.getElem?_eq_getElem (by omega)] at g0
    have hspot : spot = none := by simpa [Addr.add] using World.cell?_spot g0
    subst hspot
    have hblk := World.block_lt_of_cell? _ _ g0
    refine ⟨b, off, rfl, by simpa [Addr.add] using hblk, fun k hk => ?_⟩
    have q1 := (hf k hk).1
    have q3 := (hf k hk).2.1
    rw [Go.WideShapes.add_plain] at q1 q3
    exact ⟨by simpa [Nat.add_assoc] using q1, by simpa [Nat.add_assoc] using q3⟩

set_option maxHeartbeats 2000000 in
theorem storeFormats_lifted (os : Os) (started : os.Started) (H : Type) (enc : TypeId × Value → H) :
    ReturnsInHanded {} Tryz.checked os 4 .any (fun w args => (Rows.storeFormatsSpec.pre enc Tryz.prog Tryz.f4 Rows.storeFormatsRow.domain false w args ∧ laidMetH Tryz.prog Rows.storeFormatsRow.laid w) ∧ sizedMet enc Tryz.prog Tryz.f4 (OpenSpec.ofChange Rows.storeFormatsSpec) false w args)
      (Rows.storeFormatsSpec.post enc Tryz.prog Tryz.f4 false true false false) := by
  refine returnsInHanded_of_change_and (C := Tryz.checked) (X := fun w _ => laidMetH Tryz.prog Rows.storeFormatsRow.laid w) (fun _ _ _ hh h => h.of_heap hh) own18 started (by kernel_rfl) Tryz.func4
    (ChangeSpec.witness_shaped (enc := enc) (C := Tryz.checked) (os := os) (X := fun w _ => laidMetH Tryz.prog Rows.storeFormatsRow.laid w) false (World.laidAll Tryz.prog os Rows.storeFormatsRow.laid) #[.int .i64 0, .int .i64 0, .int .i64 0, .slice none 0 0] 8 (World.laidAll_os _ _ _)
      (World.shaped_of_ZipB (by kernel_rfl) (by kernel_rfl)) (by kernel_rfl) (by kernel_rfl) (by kernel_rfl)
      (by rw [MakeChecks.laidMetH_plain _ _ _ (by kernel_rfl)]; exact laidMet_laidAll _ (by kernel_rfl) (by kernel_rfl))) ?_
  intro W base args ds gs before hval0 hW hc hsz _ _
  have hval : ∀ (j : Nat) t v, Tryz.f4.params[j]? = some t → args[j]? = some v → Value.okWide Tryz.prog W .any base t v := hval0
  have hW' := hW
  obtain ⟨p, q, hA0, hV, rfl, _, _⟩ := hW
  have hA : DataW.TrodAll enc Tryz.prog W 0 (fun _ => true) true Tryz.f4.params.toList args.toList ds p := hA0
  rw [Tryz.params4] at hA hval hsz
  obtain ⟨v0, vs0, d0, ds0, p0, q0, hargs, rfl, rfl, h0, r0⟩ := trodAll_cons hA
  obtain ⟨v1, vs1, d1, ds1, p1, q1, rfl, rfl, rfl, h1, r1⟩ := trodAll_cons r0
  obtain ⟨v2, vs2, d2, ds2, p2, q2, rfl, rfl, rfl, h2, r2⟩ := trodAll_cons r1
  obtain ⟨v3, vs3, d3, ds3, p3, q3, rfl, rfl, rfl, h3, r3⟩ := trodAll_cons r2
  obtain ⟨rfl, rfl, rfl⟩ := trodAll_nil r3
  obtain rfl : args = #[v0, v1, v2, v3] := by cases args; simp_all
  obtain ⟨rfl, rfl⟩ := trodVars_none hV
  obtain ⟨n, rfl, rfl, rfl, wn⟩ := open_int Tryz.underlying3 (hval 0 3 v0 rfl rfl) h0
  obtain ⟨j, rfl, rfl, rfl, wj⟩ := open_int Tryz.underlying3 (hval 1 3 v1 rfl rfl) h1
  obtain ⟨b, rfl, rfl, rfl, wb⟩ := open_int Tryz.underlying3 (hval 2 3 v2 rfl rfl) h2
  obtain ⟨ao, len, cap, rfl⟩ := okWide_slice Tryz.underlying54 (hval 3 54 v3 rfl rfl)
  have k3 := h3
  have lt3 : ∀ x ∈ p3, x.block < W.heap.size := by obtain ⟨m, hm⟩ := k3; exact DataW.trod_lt m _ _ _ hm
  obtain ⟨fuel, hf⟩ := h3
  have hj := open_junk hf (fun m hm => by
    have := List.all_eq_true.1 hsz m (DataW.weights_mem_each (j := 3) (t := 54) rfl rfl m hm)
    simpa using this)
  obtain ⟨hlen, at_, s, hJ⟩ := hj
  have hmax : maxLen ≤ 9223372036854775807 := by decide
  clear hA0 hval0
  refine (store_formats n j b ao len cap at_ s W (bounds_i64 wn) (by omega) hJ).mono fun e W' ⟨he, bel⟩ => ?_
  subst he
  exact ⟨_, rfl, _, _, _, [], _, [], hW', trodAll_mk1 (shut_bool Tryz.underlying4 _), (trodAll_cons_mk (shut_int Tryz.underlying3 wn) (trodAll_cons_mk (shut_int Tryz.underlying3 wj) (trodAll_cons_mk (shut_int Tryz.underlying3 wb) (trodAll_cons_mk (Below.trod laidOut18 (by kernel_rfl) (of_decide_eq_true (by kernel_rfl)) k3 bel lt3) trodAll_mk0)))), rfl, bel.frame _, fun h => by cases h⟩

theorem storeFormats_said : Rows.StoreFormatsSaid :=
  OpenClaim.holds_of_wide 4 Tryz.f4 rfl rfl rfl rfl rfl rfl rfl ⟨rfl, rfl, rfl, rfl, rfl⟩ rfl rfl rfl rfl rfl (by kernel_rfl) Tryz.func4 (by kernel_rfl)
    (of_decide_eq_true (by kernel_rfl)) (by unfold Func.isWrapper; first | (rw [if_pos (by decide +kernel)]; kernel_rfl) | (rw [if_neg (by decide +kernel)]; exact ⟨rfl, rfl⟩))
    (fun os started H enc _ => storeFormats_lifted os started H enc)

theorem storeFormats_holds : Rows.StoreFormatsCardSaid :=
  Claim7.holds_tied_plain_at .later [] [.data, .pinned] true (true, "553fd52bb226eef5a6f4cb5e5544845aebc690486954eec0edbd706e1d16f0f2") true storeFormats_said (fun _ h => by cases h) (by kernel_rfl) (fun _ h => by cases h) storeFormats_row_tie rfl ⟨rfl, rfl⟩ (by kernel_rfl) rfl
    (fun f fn hf hfn => by
      obtain rfl : f = 4 := Option.some.inj ((show Tryz.prog.funcNamed "stereobate/stereobatelaw18.StoreFormats" = some 4 by kernel_rfl).symm.trans hf) |>.symm
      obtain rfl : fn = Tryz.f4 := (Option.some.inj (Tryz.func4.symm.trans hfn)).symm
      exact ⟨by kernel_rfl, fun j t ht => by
        rw [Tryz.params4] at ht
        have hm : t ∈ [3, 3, 3, 54] := by simpa using Array.mem_of_getElem? ht
        have hall : ([3, 3, 3, 54].all fun u => !Tryz.prog.wantsStandIn u) = true := by kernel_rfl
        exact (show Tryz.prog.wantsStandIn t = false by simpa using List.all_eq_true.1 hall t hm)⟩)
    (by kernel_rfl)
#print axioms storeFormats_said
#print axioms storeFormats_holds
end Go.Proofs.YtajojhfialbfkaaGreatDoor
