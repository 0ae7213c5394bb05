/- Layer 10: the heap: Put. -/
import Derived.Laws.BitsAllLaws
import Derived.Test.YtajojhfialbfkaaGreatDoorMRowStoreF07
namespace Go.Proofs.YtajojhfialbfkaaGreatDoor
open Go.RowKit
set_option maxRecDepth 100000

/-- Bytes in the least free sector. -/
def HS.put (S : HS) (s : ByteArray) : HS :=
  { S with D := S.D.wrote S.G.first s, G := S.G.put S.G.first 1, refs := mput S.refs S.G.first (some 1), young := mput S.young S.G.first (some 1) }

/-- All is of a size. -/
structure HS.ok (S : HS) : Prop where
  gok : S.G.ok
  end_ : S.G.from_ + S.G.l.length ≤ S.D.l.length
  dl : S.D.l.length ≤ 4096

section
variable {w w' : World} {B : HB} {S : HS} {yg : Nat} {gv lv : Value} {depth : Nat} {steps : List Step}

theorem HF_back {w : World} {lv' : Value} (hlv : ∀ k, lv'.ownBlock = some k → lv.ownBlock = some k ∨ w.heap.size ≤ k) : ∀ x, x < w.heap.size → HF B yg lv' x → HF B yg lv x := by
  rintro x hx (h | h)
  · exact .inl h
  · rcases hlv x h with h1 | h1
    · exact .inr h1
    · omega
theorem lv_trans {w w2 : World} {lv2 lv3 : Value} (hz : w.heap.size ≤ w2.heap.size) (h2 : ∀ k, lv2.ownBlock = some k → lv.ownBlock = some k ∨ w.heap.size ≤ k) (h3 : ∀ k, lv3.ownBlock = some k → lv2.ownBlock = some k ∨ w2.heap.size ≤ k) :
    ∀ k, lv3.ownBlock = some k → lv.ownBlock = some k ∨ w.heap.size ≤ k := by
  intro k hk
  rcases h3 k hk with h | h
  · exact h2 k h
  · right; omega
theorem grF_HF {k : Nat} (hk : GrF B.m (B.msv S) k) : HF B yg lv k := by
  rcases hk with rfl | hk
  · exact .inl (by simp)
  · injection hk with hk; subst hk; exact .inl (by simp)
theorem diskF_HF {k : Nat} (hk : DiskF B.d (B.dsv S) k) : HF B yg lv k := by
  rcases hk with rfl | hk
  · exact .inl (by simp)
  · injection hk with hk; subst hk; exact .inl (by simp)

set_option maxHeartbeats 4000000 in
theorem heap_put (h : HW w B S yg gv lv depth steps) (hd : 0 < depth) (hl : steps.length ≤ 90000) (ok : S.ok) (hc : S.D.calm) (hroom : S.keep < S.G.l.count 0) (hk : S.keep ≤ 100000) (s : ByteArray) (hs : s.size ≤ 64) :
    Calls Tryz.prog 194 #[.pointer (some ⟨B.h, 0, none⟩), .string s] w fun e w' =>
      e = .returned (.int .i64 (S.G.first : Int)) ∧ (∃ lv' new, HW w' B (S.put s) yg gv lv' depth (steps ++ new) ∧ new.length = 3 ∧ (∀ k, lv'.ownBlock = some k → lv.ownBlock = some k ∨ w.heap.size ≤ k)) ∧ Fr (HF B yg lv) w w' := by
  have hmem : 0 ∈ S.G.l := List.count_pos_iff.1 (by omega)
  have hi : S.G.l.idxOf 0 < S.G.l.length := List.idxOf_lt_length_iff.2 hmem
  have hfirst : S.G.first < S.D.l.length := by have := ok.end_; unfold GS.first; omega
  have hf4 : S.G.first ≤ 4096 := by have := ok.dl; omega
  have hcc := cell_blk h.hh
  have hfree := gr_free h.gr
  have h0 : 0 < S.G.l.count 0 := by omega
  have H := Lib.hid h
  have HD := Lib.hid hd
  have HL := Lib.hid hl
  have HO := Lib.hid ok
  have HC := Lib.hid hc
  have HS := Lib.hid hs
  have HFi := Lib.hid hfirst
  have HF4 := Lib.hid hf4
  have H0 := Lib.hid h0
  have HFree := Lib.hid hfree
  obtain ⟨ga, gn, gc, rfl, _, _⟩ : ∃ ga gn gc, gv = .slice ga gn gc ∧ True ∧ True := by
    obtain ⟨ao, cap, e, _, _⟩ := ownsRow_form H.out.gone
    exact ⟨ao, _, cap, e, trivial, trivial⟩
  clear h hd hl ok hc hk hs hmem hi hfirst hf4 h0 hfree
  go_enter Tryz.func194, Tryz.ntmps194
  go_wp2_with fail
  refine wp_region_perm 9 (fun w' => ∀ i, w'.cell? ⟨B.h, i, none⟩ = #[.pointer (some ⟨B.d, 0, none⟩), .pointer (some ⟨B.g, 0, none⟩), .pointer (some ⟨B.m, 0, none⟩), .map (some B.rf), .map (some yg), .slice ga gn gc, .int .i64 (S.keep : Int)][i]?) [(0, true), (1, true), (2, true), (3, true), (5, true), (6, true), (7, true), (8, true), (4, false)] (by kernel_rfl) (by kernel_rfl) ?_ (by intro c a d v w h; cases d <;> exact h) ?_
  · exact hcc
  simp only [pickOps, List.getElem?_cons_succ, List.getElem?_cons_zero, List.map_cons, List.map_nil, List.drop_succ_cons, List.drop_zero]
  repeat ((with_reducible refine wpMix_read ?_ (fun K hK => ?_)); (focus rfl); apply Exists.intro; refine ⟨fun w' hS => ?_, ?_⟩; (focus (try dsimp only at hS; go_simp; try rfl)); go_simp; refine hK _ ?_; clear hK K)
  refine wpMix_act rfl (fun K hK => ?_)
  go_simp
  refine (gr_free (w := w.drew) ⟨H.out.gr.hm, H.out.gr.row⟩).mono ?_
  rintro e w1 ⟨rfl, rfl⟩
  refine hK _ _ hcc ?_; clear hK K
  repeat ((with_reducible refine wpMix_read ?_ (fun K hK => ?_)); (focus rfl); apply Exists.intro; refine ⟨fun w' hS => ?_, ?_⟩; (focus (try dsimp only at hS; go_simp; try rfl)); go_simp; refine hK _ ?_; clear hK K)
  refine wpMix_nil ?_
  go_wp2_with fail
  refine (gr_take (w := w.drew) ⟨H.out.gr.hm, H.out.gr.row⟩ HO.out.gok H0.out).mono ?_
  rintro e w1 ⟨rfl, hg1, hF1⟩
  have hF1' : Fr (GrF B.m (B.msv S)) w w1 := ((Fr.refl (GrF B.m (B.msv S)) w).drew).trans hF1 (fun _ _ h => h)
  have h1 := H.out.of_grants hg1 (by simp [GS.put]) hF1'
  have H1 := Lib.hid h1
  have HF1 := Lib.hid hF1'
  have hc1 := cell_blk h1.hh
  clear hg1 hF1 hF1' h1 hcc hroom
  go_wp2_with fail
  have hfr1 : S.G.first ≤ 4096 := HF4.out
  refine wp_region_perm 7 (fun w' => ∀ i, w'.cell? ⟨B.h, i, none⟩ = #[.pointer (some ⟨B.d, 0, none⟩), .pointer (some ⟨B.g, 0, none⟩), .pointer (some ⟨B.m, 0, none⟩), .map (some B.rf), .map (some yg), .slice ga gn gc, .int .i64 (S.keep : Int)][i]?) [(0, true), (1, true), (2, true), (3, true), (4, true), (5, true), (6, false)] (by kernel_rfl) (by kernel_rfl) ?_ (by intro c a d v w h; cases d <;> exact h) ?_
  · exact hc1
  simp only [pickOps, List.getElem?_cons_succ, List.getElem?_cons_zero, List.map_cons, List.map_nil, List.drop_succ_cons, List.drop_zero]
  repeat ((with_reducible refine wpMix_read ?_ (fun K hK => ?_)); (focus rfl); apply Exists.intro; refine ⟨fun w' hS => ?_, ?_⟩; (focus (try dsimp only at hS; go_simp; try rfl)); go_simp; refine hK _ ?_; clear hK K)
  refine wpMix_act rfl (fun K hK => ?_)
  go_simp
  refine (heap_give B.h S.G.first w1.drew).mono ?_
  rintro e w2 ⟨rfl, rfl⟩
  have hx := blk_alloc (o' := .cells #[.int .i64 (S.G.first : Int)] 3) (blk_new (w := w1.drew) (o := .cells #[.pointer (some ⟨B.h, 0, none⟩)] 75) rfl)
  have hy := blk_new (o := .cells #[.int .i64 (S.G.first : Int)] 3) (size_alloc (w := w1.drew) (o := .cells #[.pointer (some ⟨B.h, 0, none⟩)] 75) rfl)
  have hF2 : Fr (fun _ => False) w1 ((w1.drew.alloc (.cells #[.pointer (some ⟨B.h, 0, none⟩)] 75)).alloc (.cells #[.int .i64 (S.G.first : Int)] 3)) := ((((Fr.refl _ w1).drew).alloc _).alloc _)
  have h2 := H1.out.fr hF2 (fun _ _ h => h)
  have hlt1 := H1.out.lt
  have hsz1 : w1.drew.heap.size = w1.heap.size := rfl
  rw [hsz1] at hx hy ⊢
  generalize (w1.drew.alloc (.cells #[.pointer (some ⟨B.h, 0, none⟩)] 75)).alloc (.cells #[.int .i64 (S.G.first : Int)] 3) = w2 at *
  refine hK _ _ (cell_blk h2.hh) ?_; clear hK K
  repeat ((with_reducible refine wpMix_read ?_ (fun K hK => ?_)); (focus rfl); apply Exists.intro; refine ⟨fun w' hS => ?_, ?_⟩; (focus (try dsimp only at hS; go_simp; try rfl)); go_simp; refine hK _ ?_; clear hK K)
  refine wpMix_nil ?_
  have hb := hw_back h2 HD.out (by have := HL.out; omega) (.give w1.heap.size (w1.heap.size + 1) S.G.first) ⟨fun p hp => by
      simp only [Step.boxes, List.mem_cons, List.not_mem_nil, or_false] at hp
      rcases hp with rfl | rfl
      · exact ⟨hx, fun h => by have := hlt1 _ h; simp only at this; omega⟩
      · exact ⟨hy, fun h => by have := hlt1 _ h; simp only at this; omega⟩, fun _ _ _ _ _ e => (by cases e), fun _ _ _ _ _ _ _ _ e => (by cases e)⟩
  have HBk := Lib.hid hb
  have HF2 := Lib.hid hF2
  clear hx hy hF2 h2 hb hc1 hlt1 hsz1
  simp only [Step.val] at HBk
  go_wp2_with fail
  refine HBk.out.mono ?_
  rintro e w3 ⟨rfl, ⟨lv3, h3, hlv3⟩, hF3⟩
  have hz1 := HF1.out.size
  have hz2 := HF2.out.size
  have hz3 := hF3.size
  have HF3 := Lib.hid (show Fr (HF B yg lv) w w3 from ((HF1.out.mono (fun k _ hk => grF_HF hk)).trans HF2.out (fun _ _ h => h.elim)).trans hF3 (fun k _ hk => H.out.logF hk))
  have HV3 := Lib.hid (show ∀ k, lv3.ownBlock = some k → lv.ownBlock = some k ∨ w.heap.size ≤ k from fun k hk => (hlv3 k hk).imp_right (fun h => by omega))
  have H3 := Lib.hid h3
  have hc3 := cell_blk h3.hh
  clear h3 hlv3 hF3
  go_wp2_with fail
  refine wp_region_perm 9 (fun w' => ∀ i, w'.cell? ⟨B.h, i, none⟩ = #[.pointer (some ⟨B.d, 0, none⟩), .pointer (some ⟨B.g, 0, none⟩), .pointer (some ⟨B.m, 0, none⟩), .map (some B.rf), .map (some yg), .slice ga gn gc, .int .i64 (S.keep : Int)][i]?) [(0, true), (1, true), (2, true), (3, true), (4, true), (5, true), (6, true), (7, true), (8, true)] (by kernel_rfl) (by kernel_rfl) ?_ (by intro c a d v w h; cases d <;> exact h) ?_
  · exact hc3
  simp only [pickOps, List.getElem?_cons_succ, List.getElem?_cons_zero, List.map_cons, List.map_nil, List.drop_succ_cons, List.drop_zero]
  repeat ((with_reducible refine wpMix_read ?_ (fun K hK => ?_)); (focus rfl); apply Exists.intro; refine ⟨fun w' hS => ?_, ?_⟩; (focus (try dsimp only at hS; go_simp; try rfl)); go_simp; refine hK _ ?_; clear hK K)
  refine wpMix_nil ?_
  have hp := hw_put_refs (H3.out.fr (Fr.drew (Fr.refl (fun _ => False) w3)) (fun _ _ h => h)) HD.out (by have := HL.out; simp; omega) S.G.first 1 (by unfold ikOk; omega)
  have HP := Lib.hid hp
  clear hp hc3
  go_wp2_with fail
  refine HP.out.mono ?_
  rintro e w4 ⟨rfl, ⟨lv4, x1, x2, x3, x4, h4, hlv4, _⟩, hF4⟩
  have hlv4 : ∀ k, lv4.ownBlock = some k → lv3.ownBlock = some k ∨ w3.heap.size ≤ k := hlv4
  have hF4 : Fr (HF B yg lv3) w3 w4 := ((Fr.refl (HF B yg lv3) w3).drew).trans hF4 (fun _ _ h => h)
  have hz4 := hF4.size
  have HF4' := Lib.hid (HF3.out.trans hF4 (HF_back HV3.out))
  have HV4 := Lib.hid (lv_trans (by omega) HV3.out hlv4)
  have H4 := Lib.hid h4
  have hc4 := cell_blk h4.hh
  clear h4 hlv4 hF4
  go_wp2_with fail
  refine wp_region_perm 9 (fun w' => ∀ i, w'.cell? ⟨B.h, i, none⟩ = #[.pointer (some ⟨B.d, 0, none⟩), .pointer (some ⟨B.g, 0, none⟩), .pointer (some ⟨B.m, 0, none⟩), .map (some B.rf), .map (some yg), .slice ga gn gc, .int .i64 (S.keep : Int)][i]?) [(0, true), (1, true), (2, true), (3, true), (4, true), (5, true), (6, true), (7, true), (8, true)] (by kernel_rfl) (by kernel_rfl) ?_ (by intro c a d v w h; cases d <;> exact h) ?_
  · exact hc4
  simp only [pickOps, List.getElem?_cons_succ, List.getElem?_cons_zero, List.map_cons, List.map_nil, List.drop_succ_cons, List.drop_zero]
  repeat ((with_reducible refine wpMix_read ?_ (fun K hK => ?_)); (focus rfl); apply Exists.intro; refine ⟨fun w' hS => ?_, ?_⟩; (focus (try dsimp only at hS; go_simp; try rfl)); go_simp; refine hK _ ?_; clear hK K)
  refine wpMix_nil ?_
  have hp := hw_put_young (H4.out.fr (Fr.drew (Fr.refl (fun _ => False) w4)) (fun _ _ h => h)) HD.out (by have := HL.out; simp; omega) S.G.first 1 (by unfold ikOk; omega)
  have HP := Lib.hid hp
  clear hp hc4
  go_wp2_with fail
  refine HP.out.mono ?_
  rintro e w5 ⟨rfl, ⟨lv5, y1, y2, y3, y4, h5, hlv5, _⟩, hF5⟩
  have hlv5 : ∀ k, lv5.ownBlock = some k → lv4.ownBlock = some k ∨ w4.heap.size ≤ k := hlv5
  have hF5 : Fr (HF B yg lv4) w4 w5 := ((Fr.refl (HF B yg lv4) w4).drew).trans hF5 (fun _ _ h => h)
  have hz5 := hF5.size
  have HF5 := Lib.hid (HF4'.out.trans hF5 (HF_back HV4.out))
  have HV5 := Lib.hid (lv_trans (by omega) HV4.out hlv5)
  have H5 := Lib.hid h5
  have hc5 := cell_blk h5.hh
  clear h5 hlv5 hF5
  have hwr := disk_write_calm H5.out.disk HC.out S.G.first HFi.out s HS.out
  have HW5 := Lib.hid hwr
  clear hwr
  go_wp2_with fail
  refine HW5.out.mono ?_
  rintro e w6 ⟨rfl, hd6, hF6⟩
  have h6 := H5.out.of_disk hd6 (DS.wrote_len _ _ _) hF6
  have HF6 := Lib.hid (HF5.out.trans (hF6.mono (fun k _ hk => diskF_HF (lv := lv5) (yg := yg) hk)) (HF_back HV5.out))
  have H6 := Lib.hid h6
  clear hd6 hF6 h6 hc5
  go_wp2_with fail
  go_ret
  refine ⟨rfl, ⟨lv5, [.give w1.heap.size (w1.heap.size + 1) S.G.first, .tab false false x1 x2 x3 x4 yg S.G.first (S.refs S.G.first), .tab false true y1 y2 y3 y4 yg S.G.first (S.young S.G.first)], ?_, rfl, HV5.out⟩, HF6.out⟩
  have := H6.out
  simp only [List.append_assoc, List.cons_append, List.nil_append] at this
  exact this
end
end Go.Proofs.YtajojhfialbfkaaGreatDoor
/- Layer 10: the heap: New, Settle, Try. -/
namespace Go.Proofs.YtajojhfialbfkaaGreatDoor
open Go.RowKit
set_option maxRecDepth 100000

/-- A heap in which all from one sector on are free. -/
def HS.fresh (D : DS) (from_ : Nat) : HS := ⟨D, GS.fresh from_ D.l.length, fun _ => none, fun _ => none, [], 0⟩

theorem run_makeMap_none {P : Program} (t k e : TypeId) (_ht : P.underlying t = some (.map k e)) (w : World) :
    (Instr.makeMap t none).run P w = .ok (.map (some w.heap.size)) (w.alloc (.map #[] 0)) := by
  simp [Instr.makeMap]

section
variable {w w' : World}

set_option maxHeartbeats 1000000 in
theorem heap_new {d : Nat} {sv : Value} {D : DS} (h : DiskAt w d sv D) (a : Nat) (ha : a < D.l.length) (hn : D.l.length ≤ 4096) :
    Calls Tryz.prog 27 #[.pointer (some ⟨d, 0, none⟩), .int .i64 (a : Int)] w fun e w' =>
      ∃ B yg, e = .returned (.pointer (some ⟨B.h, 0, none⟩)) ∧ B.d = d ∧ B.dsv (HS.fresh D a) = sv ∧ HW w' B (HS.fresh D a) yg (.slice none 0 0) (.slice none 0 0) 0 [] ∧ Below w.heap.size w w' ∧ (∀ k, HF B yg (.slice none 0 0) k → k = d ∨ sv.ownBlock = some k ∨ w.heap.size ≤ k) := by
  obtain ⟨db, dc, cur, rfl, k1, k2, k3, k4, k5⟩ := ownsRow_at h.row (by omega)
  have H := Lib.hid h
  have HA := Lib.hid ha
  have HN := Lib.hid hn
  clear h ha hn k1 k2 k3 k4 k5
  have hmk := fun W => run_makeMap_none (P := Tryz.prog) 124 _ _ Tryz.underlying124 W
  go_enter Tryz.func27, Tryz.ntmps27
  go_wp2_with fail
  have hF0 : Fr (fun _ => False) w (w.alloc (Obj.cells #[.slice none 0 0, .int .i64 0] 153)) := (Fr.refl _ w).alloc _
  have hg0 := blk_new (w := w) (o := Obj.cells #[.slice none 0 0, .int .i64 0] 153) rfl
  have hz0 := size_alloc (w := w) (o := Obj.cells #[.slice none 0 0, .int .i64 0] 153) rfl
  generalize w.alloc (Obj.cells #[.slice none 0 0, .int .i64 0] 153) = w0 at *
  have h0 := H.out.fr hF0 (fun _ _ h => h)
  refine (disk_len h0).mono ?_
  rintro e w1 ⟨rfl, rfl⟩
  have H0 := Lib.hid h0
  have HF0 := Lib.hid hF0
  have HG0 := Lib.hid hg0
  clear h0 hF0 hg0
  go_wp2_with fail
  refine (gr_new a D.l.length HA.out HN.out).mono ?_
  rintro e w1 ⟨m, msv, rfl, hgr, hF1, hge⟩
  have hz1 := hF1.size
  have HGr := Lib.hid hgr
  have HF1 := Lib.hid (HF0.out.trans hF1 (fun _ _ h => h))
  have HG1 := Lib.hid (hF1.blk HG0.out (fun h => h))
  have HGe := Lib.hid hge
  clear hgr hF1 hge
  go_wp2_with fail
  have hF2 : Fr (fun _ => False) w1 ((w1.alloc (.map #[] 0)).alloc (.map #[] 0)) := ((Fr.refl _ w1).alloc _).alloc _
  have hr2 : MapIs ik ik ikOk ((w1.alloc (.map #[] 0)).alloc (.map #[] 0)) w1.heap.size (fun _ => none) := (mapIs_new w1).fr ((Fr.refl (fun _ => False) _).alloc _) (fun h => h)
  have hy2 : MapIs ik ik ikOk ((w1.alloc (.map #[] 0)).alloc (.map #[] 0)) (w1.heap.size + 1) (fun _ => none) := by
    have := mapIs_new (ke := ik) (ve := ik) (ok := ikOk) (w1.alloc (.map #[] 0))
    rw [size_alloc (w := w1) rfl] at this
    exact this
  go_ret
  have hgr := HGr.out
  have hlen : (GS.fresh a D.l.length).l.length = D.l.length - a := by simp [GS.fresh]
  have ha := HA.out
  obtain ⟨mb, mc, cur2, rfl, q1, q2, q3, q4, q5⟩ := ownsRow_at hgr.row (by rw [hlen]; omega)
  have hdd := H.out.lt d (.inl rfl)
  have hdb := H.out.lt db (.inr rfl)
  have hddb : d ≠ db := fun e => ownsRow_ne H.out.row H.out.hd (by decide) (by rw [e]; rfl)
  have hmb : m ≠ mb := fun e => ownsRow_ne hgr.row hgr.hm (by decide) (by rw [e]; rfl)
  have hm1 := HGe.out m (.inl rfl)
  have hmb1 := HGe.out mb (.inr rfl)
  have hm2 := hgr.lt m (.inl rfl)
  have hmb2 := hgr.lt mb (.inr rfl)
  have hF3 := hF2.alloc (Obj.cells #[.pointer (some ⟨d, 0, none⟩), .pointer (some ⟨w.heap.size, 0, none⟩), .pointer (some ⟨m, 0, none⟩), .map (some w1.heap.size), .map (some (w1.heap.size + 1)), .slice none 0 0, .int .i64 0] 126)
  have hFw := HF1.out.trans hF3 (fun _ _ h => h)
  have hh := blk_new (o := Obj.cells #[.pointer (some ⟨d, 0, none⟩), .pointer (some ⟨w.heap.size, 0, none⟩), .pointer (some ⟨m, 0, none⟩), .map (some w1.heap.size), .map (some (w1.heap.size + 1)), .slice none 0 0, .int .i64 0] 126) (size_alloc (o := .map #[] 0) (size_alloc (w := w1) (o := .map #[] 0) rfl))
  refine ⟨⟨w1.heap.size + 1 + 1, d, db, dc, m, mb, mc, w1.heap.size, w.heap.size⟩, w1.heap.size + 1, rfl, rfl, rfl, ⟨hh, H.out.fr hFw (fun _ _ h => h), hgr.fr hF3 (fun _ _ h => h), hr2.fr ((Fr.refl (fun _ => False) _).alloc _) (fun h => h), hy2.fr ((Fr.refl (fun _ => False) _).alloc _) (fun h => h), ⟨rfl, .inl ⟨rfl, rfl⟩⟩, ⟨hF3.blk HG1.out (fun h => h), ⟨rfl, .inl ⟨rfl, rfl⟩⟩⟩, ?_, fun k hk => (by cases hk), fun k hk => (by cases hk), fun s hs => (by cases hs)⟩, hFw.below (fun _ _ h => h.elim) (Nat.le_refl _), ?_⟩
  · simp only [List.nodup_cons, List.mem_cons, List.not_mem_nil, or_false, not_or, List.nodup_nil, not_false_eq_true, and_true]
    repeat' apply And.intro
    all_goals omega
  · rintro k (hk | hk)
    · simp only [List.mem_cons, List.not_mem_nil, or_false] at hk
      rcases hk with rfl | rfl | rfl | rfl | rfl | rfl | rfl | rfl
      · right; right; omega
      · exact .inl rfl
      · exact .inr (.inl rfl)
      · right; right; omega
      · right; right; omega
      · right; right; omega
      · right; right; omega
      · right; right; omega
    · cases hk
end
end Go.Proofs.YtajojhfialbfkaaGreatDoor
/- Layer 10: the heap: what is gone is free; Settle; Try. -/
namespace Go.Proofs.YtajojhfialbfkaaGreatDoor
open Go.RowKit
set_option maxRecDepth 100000

def gfree (G : GS) (a : Nat) : GS := (G.move a 2 1).move a 1 0
def HS.free (S : HS) : HS := { S with G := S.gone.foldl gfree S.G, gone := [] }

theorem GS.move_len (G : GS) (a f t : Nat) : (G.move a f t).l.length = G.l.length := by
  unfold GS.move; split <;> simp [GS.put]
theorem gfree_len (G : GS) (a : Nat) : (gfree G a).l.length = G.l.length := by simp [gfree, GS.move_len]
theorem gfree_ok {G : GS} (ok : G.ok) (a : Nat) : (gfree G a).ok := GS.move_ok (GS.move_ok ok a 2 1 (by decide)) a 1 0 (by decide)
theorem gfold_len (l : List Nat) : ∀ G : GS, (l.foldl gfree G).l.length = G.l.length := by
  induction l with
  | nil => intro G; rfl
  | cons a l ih => intro G; rw [List.foldl_cons, ih, gfree_len]
theorem gfold_ok (l : List Nat) : ∀ G : GS, G.ok → (l.foldl gfree G).ok := by
  induction l with
  | nil => intro G h; exact h
  | cons a l ih => intro G h; exact ih _ (gfree_ok h a)

section
variable {w w' : World} {B : HB} {S : HS} {yg : Nat} {gv lv : Value} {depth : Nat} {steps : List Step}

/-- Nothing is gone. -/
theorem HW.of_gone (h : HW w B S yg gv lv depth steps) : HW (w.setCell ⟨B.h, 5, none⟩ (.slice none 0 0)) B { S with gone := [] } yg (.slice none 0 0) lv depth steps := by
  have hF : Fr (fun k => k = B.h) w (w.setCell ⟨B.h, 5, none⟩ (.slice none 0 0)) := (Fr.refl (fun k => k = B.h) w).setCell (p := ⟨B.h, 5, none⟩) (fun _ => rfl) _
  obtain ⟨n1, n2, n3, n4⟩ := h.next hF (fun k hk => .inl (by rw [hk]; simp)) (fun k hk => .inl hk)
  have hb := blk_set (i := 5) (v := .slice none 0 0) h.hh
  simp only [List.setIfInBounds_toArray, List.set_cons_zero, List.set_cons_succ] at hb
  refine ⟨hb, ?_, ?_, h.refs.fr hF (h.ne 5 0 (by decide) (by decide) (by decide)), h.young.fr hF (h.ne 6 0 (by decide) (by decide) (by decide)), ⟨rfl, .inl ⟨rfl, rfl⟩⟩, ?_, h.apart, n3, fun k hk => (by cases hk), n1⟩
  · refine h.disk.fr hF ?_
    rintro k (rfl | hk)
    · exact h.ne 1 0 (by decide) (by decide) (by decide)
    · injection hk with hk; subst hk; exact h.ne 2 0 (by decide) (by decide) (by decide)
  · refine h.gr.fr hF ?_
    rintro k (rfl | hk)
    · exact h.ne 3 0 (by decide) (by decide) (by decide)
    · injection hk with hk; subst hk; exact h.ne 4 0 (by decide) (by decide) (by decide)
  · exact h.log.fr hF (fun k hk e => h.ne_log (by simp) (e ▸ hk))

set_option maxHeartbeats 1000000 in
theorem heap_freeAll (h : HW w B S yg gv lv depth steps) (ok : S.G.ok) (hg : ∀ a ∈ S.gone, a ≤ 100000) (hgl : S.gone.length ≤ 100000) :
    Calls Tryz.prog 95 #[.pointer (some ⟨B.h, 0, none⟩)] w fun e w' =>
      e = unit0 ∧ HW w' B S.free yg (.slice none 0 0) lv depth steps ∧ Fr (HF B yg lv) w w' := by
  have hc := cell_blk h.hh
  obtain ⟨ao, cp, rfl, hcp1, hcp2⟩ := ownsRow_form h.gone
  unfold maxLen at hcp2
  have H := Lib.hid h
  have HO := Lib.hid ok
  have HGa := Lib.hid hg
  clear h ok hg
  go_enter Tryz.func95, Tryz.ntmps95
  go_wp2_with fail
  go_loopw [9] (fun i wr => ∃ k : Nat, k ≤ S.gone.length ∧ i = .int .i64 (k : Int) ∧ HW wr B { S with G := (S.gone.take k).foldl gfree S.G } yg (.slice ao S.gone.length cp) lv depth steps ∧ Fr (HF B yg lv) w wr) (fun i _ => S.gone.length - (intOf i).toNat)
  case atStart => exact ⟨0, Nat.zero_le _, rfl, H.out, Fr.refl _ _⟩
  case round =>
    obtain ⟨k, hk, rfl, hr, hF⟩ := hrel
    have HR := Lib.hid hr
    have HF := Lib.hid hF
    clear hr hF hc
    rcases Nat.lt_or_ge k S.gone.length with hlt | hge
    · have hrow : wr.ownsRow 0 3 1 (.slice ao S.gone.length cp) S.gone.length (icells S.gone) := HR.out.gone
      obtain ⟨g2, cap2, cur2, e2, _, _, _, _, _⟩ := ownsRow_at hrow (by omega)
      injection e2 with e2 e3 e4
      subst e2
      clear e3 e4
      have hcell := hrow.cellAt k (by omega)
      rw [show (icells S.gone)[k]? = some (.int .i64 (S.gone[k] : Int)) from icells_get _ _ hlt] at hcell
      have hka := HGa.out S.gone[k] (List.getElem_mem hlt)
      have hokk : ((S.gone.take k).foldl gfree S.G).ok := gfold_ok _ _ HO.out
      have hfold : (S.gone.take (k + 1)).foldl gfree S.G = gfree ((S.gone.take k).foldl gfree S.G) S.gone[k] := by
        rw [List.take_succ_eq_append_getElem hlt, List.foldl_append]; rfl
      generalize S.gone[k] = a at *
      generalize hGk : (S.gone.take k).foldl gfree S.G = Gk at *
      have hch := cell_blk HR.out.hh
      have HB := Lib.hid (gr_back HR.out.gr hokk a hka)
      have HOk := Lib.hid hokk
      have HFo := Lib.hid hfold
      have HKa := Lib.hid hka
      clear hrow hokk hfold hka hGk
      go_wp2_with fail
      refine HB.out.mono ?_
      rintro e w2 ⟨rfl, hg2, hF2⟩
      have h2 := HR.out.of_grants hg2 (GS.move_len _ _ _ _) hF2
      have H2 := Lib.hid h2
      have HF2 := Lib.hid (HF.out.trans (hF2.mono (fun k _ hk => grF_HF (yg := yg) (lv := lv) hk)) (fun _ _ h => h))
      have hch2 := cell_blk h2.hh
      have HGv := Lib.hid (gr_give h2.gr (GS.move_ok HOk.out a 2 1 (by decide)) a HKa.out)
      clear hg2 hF2 h2 hch hcell
      go_wp2_with fail
      refine HGv.out.mono ?_
      rintro e w3 ⟨rfl, hg3, hF3⟩
      have h3 := H2.out.of_grants hg3 (GS.move_len _ _ _ _) hF3
      have H3 := Lib.hid h3
      have HF3 := Lib.hid (HF2.out.trans (hF3.mono (fun k _ hk => grF_HF (yg := yg) (lv := lv) hk)) (fun _ _ h => h))
      clear hg3 hF3 h3 hch2
      go_wp2_with fail
      go_roundw
      case rel => exact ⟨k + 1, hlt, by go_num, by rw [HFo.out]; exact H3.out, HF3.out⟩
      case measure => simp [intOf]; omega
    · have hkl := Lib.hid (show S.gone.take k = S.gone from List.take_of_length_le hge)
      have hch := cell_blk HR.out.hh
      have hfz := frozen_blk HR.out.hh
      have hE := HR.out.of_gone
      rw [hkl.out] at hE
      have HE := Lib.hid hE
      clear hE
      go_wp2_with fail
      go_end0
      exact ⟨rfl, HE.out, HF.out.setCell (p := ⟨B.h, 5, none⟩) (fun _ => .inl (by simp)) _⟩
end
end Go.Proofs.YtajojhfialbfkaaGreatDoor
/- Layer 10: the heap: Settle; Held. -/
namespace Go.Proofs.YtajojhfialbfkaaGreatDoor
open Go.RowKit
set_option maxRecDepth 100000

def HS.settle (S : HS) : HS := { S with G := S.G.settle, young := fun _ => none }

section
variable {w w' : World} {B : HB} {S : HS} {yg : Nat} {gv lv : Value} {depth : Nat} {steps : List Step}

/-- A new table of the young ones. -/
theorem HW.of_young (h : HW w B S yg gv lv depth []) : HW ((w.alloc (.map #[] 0)).setCell ⟨B.h, 4, none⟩ (.map (some w.heap.size))) B { S with young := fun _ => none } w.heap.size gv lv depth [] := by
  have h1 := h.fr ((Fr.refl (fun _ => False) w).alloc (.map #[] 0)) (fun _ _ h => h)
  have hy := mapIs_new (ke := ik) (ve := ik) (ok := ikOk) w
  have hlt := h.lt
  generalize hw1 : w.alloc (.map #[] 0) = w1 at *
  have hF : Fr (fun k => k = B.h) w1 (w1.setCell ⟨B.h, 4, none⟩ (.map (some w.heap.size))) := (Fr.refl (fun k => k = B.h) w1).setCell (p := ⟨B.h, 4, none⟩) (fun _ => rfl) _
  have hb := blk_set (i := 4) (v := .map (some w.heap.size)) h1.hh
  simp only [List.setIfInBounds_toArray, List.set_cons_zero, List.set_cons_succ] at hb
  have hh0 := h.lvlt (k := B.h) (by simp)
  have hg0 := h.lvlt (k := B.g) (by simp)
  have hapart : [B.h, B.d, B.db, B.m, B.mb, B.rf, w.heap.size, B.g].Nodup := by
    have ha := h.apart
    have hx : ∀ k ∈ [B.h, B.d, B.db, B.m, B.mb, B.rf, B.g], k ≠ w.heap.size := by
      intro k hk e
      have : k < w.heap.size := h.lvlt (by
        simp only [List.mem_cons, List.not_mem_nil, or_false] at hk ⊢
        rcases hk with h | h | h | h | h | h | h <;> simp [h])
      omega
    have ha2 : ([B.h, B.d, B.db, B.m, B.mb, B.rf] ++ (yg :: [B.g])).Nodup := ha
    have p1 := (List.perm_middle (a := yg) (l₁ := [B.h, B.d, B.db, B.m, B.mb, B.rf]) (l₂ := [B.g])).nodup_iff.1 ha2
    have p2 := (List.nodup_cons.1 p1).2
    exact (List.perm_middle (a := w.heap.size) (l₁ := [B.h, B.d, B.db, B.m, B.mb, B.rf]) (l₂ := [B.g])).nodup_iff.2 (List.nodup_cons.2 ⟨fun hm => hx _ hm rfl, p2⟩)
  have hold : ∀ k, k ≠ w.heap.size → ¬ HF B yg lv k → ¬ HF B w.heap.size lv k := by
    rintro k h1 h2 (h3 | h3)
    · simp only [List.mem_cons, List.not_mem_nil, or_false] at h3
      refine h2 (.inl ?_)
      simp only [List.mem_cons, List.not_mem_nil, or_false]
      rcases h3 with h | h | h | h | h | h | h | h <;> first | (exact absurd h h1) | simp [h]
    · exact h2 (.inr h3)
  refine ⟨hb, ?_, ?_, h1.refs.fr hF (h.ne 5 0 (by decide) (by decide) (by decide)), hy.fr hF (by omega), ownsRow_fr h1.gone hF (fun k hk e => h.gapart k hk (.inl (by rw [e]; simp))), ?_, hapart, ?_, ?_, fun s hs => (by cases hs)⟩
  · refine h1.disk.fr hF ?_
    rintro k (rfl | hk)
    · exact h.ne 1 0 (by decide) (by decide) (by decide)
    · injection hk with hk; subst hk; exact h.ne 2 0 (by decide) (by decide) (by decide)
  · refine h1.gr.fr hF ?_
    rintro k (rfl | hk)
    · exact h.ne 3 0 (by decide) (by decide) (by decide)
    · injection hk with hk; subst hk; exact h.ne 4 0 (by decide) (by decide) (by decide)
  · exact h1.log.fr hF (fun k hk e => h.ne_log (by simp) (e ▸ hk))
  · intro k hk hm
    have h2 := h.lapart k hk
    have h3 := (h.log.row.lt k hk).2
    simp only [List.mem_cons, List.not_mem_nil, or_false] at hm h2
    have h4 : k ≠ w.heap.size := by omega
    rcases hm with e | e | e | e | e | e | e | e <;> first | (exact absurd e h4) | (subst e; simp at h2)
  · intro k hk
    have h3 := (h.gone.lt k hk).2
    exact hold k (by omega) (h.gapart k hk)

set_option maxHeartbeats 1000000 in
theorem heap_settle (h : HW w B S yg gv lv depth []) (ok : S.G.ok) (h0 : 0 < S.G.l.length) :
    Calls Tryz.prog 35 #[.pointer (some ⟨B.h, 0, none⟩)] w fun e w' =>
      e = unit0 ∧ (∃ yg', HW w' B S.settle yg' gv lv depth [] ∧ w.heap.size ≤ yg') ∧ Fr (HF B yg lv) w w' := by
  have hc := cell_blk h.hh
  have hgs := gr_settle h.gr ok h0
  obtain ⟨ga, gn, gc, rfl, _, _⟩ : ∃ ga gn gc, gv = .slice ga gn gc ∧ True ∧ True := by
    obtain ⟨ao, cap, e, _, _⟩ := ownsRow_form h.gone
    exact ⟨ao, _, cap, e, trivial, trivial⟩
  have H := Lib.hid h
  have HG := Lib.hid hgs
  clear h hgs ok h0
  have hmk := fun W => run_makeMap_none (P := Tryz.prog) 124 _ _ Tryz.underlying124 W
  go_enter Tryz.func35, Tryz.ntmps35
  go_wp2_with fail
  refine HG.out.mono ?_
  rintro e w1 ⟨rfl, hg, hF⟩
  have h1 := H.out.of_grants hg (by simp [GS.settle]) hF
  have hz := hF.size
  have hE := h1.of_young
  have hc1 := cell_blk (blk_alloc (o' := .map #[] 0) h1.hh)
  have hf1 := frozen_blk (blk_alloc (o' := .map #[] 0) h1.hh)
  have HE := Lib.hid hE
  have HF := Lib.hid (((hF.mono (fun k _ hk => grF_HF (yg := yg) (lv := lv) hk)).alloc (.map #[] 0)).setCell (p := ⟨B.h, 4, none⟩) (fun _ => .inl (by simp)) (.map (some w1.heap.size)))
  clear hg hF h1 hE hc
  go_wp2_with fail
  go_end0
  exact ⟨rfl, ⟨w1.heap.size, HE.out, hz⟩, HF.out⟩
end
end Go.Proofs.YtajojhfialbfkaaGreatDoor
/- Layer 2: sums: what a text's sum is, by the code's own steps. -/
namespace Go.Proofs.YtajojhfialbfkaaGreatDoor
open Go.RowKit
set_option maxRecDepth 100000

/-- What one bit does to a sum. -/
def crcBit (x : Int) : Int := bits .xor .u32 (x / 2) (bits .and .u32 2197175160 ((- (bits .and .u32 x 1)) % 4294967296))
def crcBits : Nat → Int → Int
  | 0, x => x
  | n + 1, x => crcBit (crcBits n x)
/-- The table's entries. -/
def crcT (i : Nat) : Int := crcBits 4 (i : Int)

def crcTab : List Value := [.int .u32 (crcT 0), .int .u32 (crcT 1), .int .u32 (crcT 2), .int .u32 (crcT 3), .int .u32 (crcT 4), .int .u32 (crcT 5), .int .u32 (crcT 6), .int .u32 (crcT 7), .int .u32 (crcT 8), .int .u32 (crcT 9), .int .u32 (crcT 10), .int .u32 (crcT 11), .int .u32 (crcT 12), .int .u32 (crcT 13), .int .u32 (crcT 14), .int .u32 (crcT 15)]

/-- The table's first entries. -/
def crcRow (k : Nat) : List Value := (List.range 16).map fun i => if i < k then .int .u32 (crcT i) else .int .u32 0
theorem crcRow_set (k : Nat) (h : k < 16) : (crcRow k).set k (.int .u32 (crcT k)) = crcRow (k + 1) := by
  refine List.ext_getElem? fun j => ?_
  rw [List.getElem?_set]
  simp only [crcRow, List.getElem?_map, List.length_map, List.length_range]
  by_cases hj : k = j
  · subst hj; rw [if_pos rfl, if_pos h]; simp [h]
  · rw [if_neg hj]
    rcases Nat.lt_or_ge j 16 with h1 | h1
    · rw [List.getElem?_eq_getElem (by simpa using h1)]
      simp only [List.getElem_range, Option.map_some]
      by_cases h2 : j < k
      · rw [if_pos h2, if_pos (by omega)]
      · rw [if_neg h2, if_neg (by omega)]
    · rw [List.getElem?_eq_none (by simpa using h1)]; rfl

set_option maxHeartbeats 1000000 in
theorem crc_table (w : World) :
    Calls Tryz.prog 219 #[] w fun e w' => e = .returned (.agg crcTab.toArray) ∧ Below w.heap.size w w' := by
  go_enter Tryz.func219, Tryz.ntmps219
  go_wp2_with fail
  have hr0 := blk_alloc (o' := (Obj.cells #[.int .u32 0, .int .u32 0, .int .u32 0, .int .u32 0, .int .u32 0, .int .u32 0, .int .u32 0, .int .u32 0, .int .u32 0, .int .u32 0, .int .u32 0, .int .u32 0, .int .u32 0, .int .u32 0, .int .u32 0, .int .u32 0] 275)) (blk_new (w := w) (o := (Obj.cells #[.int .u32 0, .int .u32 0, .int .u32 0, .int .u32 0, .int .u32 0, .int .u32 0, .int .u32 0, .int .u32 0, .int .u32 0, .int .u32 0, .int .u32 0, .int .u32 0, .int .u32 0, .int .u32 0, .int .u32 0, .int .u32 0] 275)) rfl)
  have ht0 := blk_new (o := (Obj.cells #[.int .u32 0, .int .u32 0, .int .u32 0, .int .u32 0, .int .u32 0, .int .u32 0, .int .u32 0, .int .u32 0, .int .u32 0, .int .u32 0, .int .u32 0, .int .u32 0, .int .u32 0, .int .u32 0, .int .u32 0, .int .u32 0] 275)) (size_alloc (w := w) (o := (Obj.cells #[.int .u32 0, .int .u32 0, .int .u32 0, .int .u32 0, .int .u32 0, .int .u32 0, .int .u32 0, .int .u32 0, .int .u32 0, .int .u32 0, .int .u32 0, .int .u32 0, .int .u32 0, .int .u32 0, .int .u32 0, .int .u32 0] 275)) rfl)
  have hL0 : Below w.heap.size w ((w.alloc (Obj.cells #[.int .u32 0, .int .u32 0, .int .u32 0, .int .u32 0, .int .u32 0, .int .u32 0, .int .u32 0, .int .u32 0, .int .u32 0, .int .u32 0, .int .u32 0, .int .u32 0, .int .u32 0, .int .u32 0, .int .u32 0, .int .u32 0] 275)).alloc (Obj.cells #[.int .u32 0, .int .u32 0, .int .u32 0, .int .u32 0, .int .u32 0, .int .u32 0, .int .u32 0, .int .u32 0, .int .u32 0, .int .u32 0, .int .u32 0, .int .u32 0, .int .u32 0, .int .u32 0, .int .u32 0, .int .u32 0] 275)) := ((Below.refl _ w).alloc (Nat.le_refl _) _).alloc (by simp) _
  generalize (w.alloc (Obj.cells #[.int .u32 0, .int .u32 0, .int .u32 0, .int .u32 0, .int .u32 0, .int .u32 0, .int .u32 0, .int .u32 0, .int .u32 0, .int .u32 0, .int .u32 0, .int .u32 0, .int .u32 0, .int .u32 0, .int .u32 0, .int .u32 0] 275)).alloc (Obj.cells #[.int .u32 0, .int .u32 0, .int .u32 0, .int .u32 0, .int .u32 0, .int .u32 0, .int .u32 0, .int .u32 0, .int .u32 0, .int .u32 0, .int .u32 0, .int .u32 0, .int .u32 0, .int .u32 0, .int .u32 0, .int .u32 0] 275) = w0 at *
  have HR0 := Lib.hid hr0
  have HT0 := Lib.hid ht0
  have HL0 := Lib.hid hL0
  clear hr0 ht0 hL0
  go_loopw [4] (fun i wr => ∃ k : Nat, k ≤ 16 ∧ i = .int .i64 (k : Int) ∧ wr.heap[w.heap.size]? = some (Obj.cells #[.int .u32 0, .int .u32 0, .int .u32 0, .int .u32 0, .int .u32 0, .int .u32 0, .int .u32 0, .int .u32 0, .int .u32 0, .int .u32 0, .int .u32 0, .int .u32 0, .int .u32 0, .int .u32 0, .int .u32 0, .int .u32 0] 275 (0, 0)) ∧ wr.heap[w.heap.size + 1]? = some (.cells (crcRow k).toArray 275 (0, 0)) ∧ Below w.heap.size w wr) (fun i _ => 16 - (intOf i).toNat)
  case atStart => exact ⟨0, by decide, rfl, HR0.out, HT0.out, HL0.out⟩
  case round =>
    obtain ⟨k, hk, rfl, hR, hT, hL⟩ := hrel
    have HR := Lib.hid hR
    have HT := Lib.hid hT
    have HL := Lib.hid hL
    clear hR hT hL
    rcases Nat.lt_or_ge k 16 with hlt | hge
    · have hw := u32_in k (by omega)
      go_wp2_with fail
      go_loop [3, 9] (fun x j => ∃ n : Nat, n ≤ 4 ∧ j = .int .i64 (n : Int) ∧ x = .int .u32 (crcBits n (k : Int))) (fun _ j => 4 - (intOf j).toNat)
      case atStart => exact ⟨0, by decide, rfl, rfl⟩
      case round =>
        obtain ⟨n, hn, rfl, rfl⟩ := hrel
        obtain ⟨x, hx⟩ : ∃ x, crcBits n (k : Int) = x := ⟨_, rfl⟩
        rw [hx]
        have HX := Lib.hid (show crcBits (n + 1) (k : Int) = crcBit x by rw [← hx]; rfl)
        have HX0 := Lib.hid hx
        clear hx
        rcases Nat.lt_or_ge n 4 with hlt4 | hge4
        · go_wp2_with fail
          refine ⟨⟨n + 1, hlt4, by go_num, by rw [HX.out]; rfl⟩, by simp [intOf]; omega⟩
        · have h4 := Lib.hid (show n = 4 by omega)
          have hck : wr.cell? ⟨w.heap.size + 1, k, none⟩ = some (.int .u32 0) := by
            rw [cell_blk HT.out k]
            simp [crcRow, hlt]
          have hfk := frozen_blk HT.out k
          go_wp2_with fail
          go_roundw
          case rel =>
            have hx : crcT k = x := by rw [← HX0.out, h4.out]; rfl
            refine ⟨k + 1, hlt, by go_num, blk_far (p := ⟨w.heap.size + 1, k, none⟩) HR.out (by show w.heap.size ≠ w.heap.size + 1; omega), ?_, HL.out.setCell (by show w.heap.size ≤ w.heap.size + 1; omega) _⟩
            have := blk_set (i := k) (v := .int .u32 x) HT.out
            rw [List.setIfInBounds_toArray, ← hx, crcRow_set k hlt] at this
            rw [← hx]; exact this
          case measure => simp [intOf]; omega
    · have hk16 : k = 16 := by omega
      subst hk16
      have hT : wr.heap[w.heap.size + 1]? = some (.cells #[.int .u32 (crcT 0), .int .u32 (crcT 1), .int .u32 (crcT 2), .int .u32 (crcT 3), .int .u32 (crcT 4), .int .u32 (crcT 5), .int .u32 (crcT 6), .int .u32 (crcT 7), .int .u32 (crcT 8), .int .u32 (crcT 9), .int .u32 (crcT 10), .int .u32 (crcT 11), .int .u32 (crcT 12), .int .u32 (crcT 13), .int .u32 (crcT 14), .int .u32 (crcT 15)] 275 (0, 0)) := HT.out
      have hcT := cell_blk hT
      have hcR := cell_blk HR.out
      have hfR := frozen_blk HR.out
      clear hT
      go_wp2_with fail
      have hb := (blk_set (i := 15) (v := .int .u32 (crcT 15)) (blk_set (i := 14) (v := .int .u32 (crcT 14)) (blk_set (i := 13) (v := .int .u32 (crcT 13)) (blk_set (i := 12) (v := .int .u32 (crcT 12)) (blk_set (i := 11) (v := .int .u32 (crcT 11)) (blk_set (i := 10) (v := .int .u32 (crcT 10)) (blk_set (i := 9) (v := .int .u32 (crcT 9)) (blk_set (i := 8) (v := .int .u32 (crcT 8)) (blk_set (i := 7) (v := .int .u32 (crcT 7)) (blk_set (i := 6) (v := .int .u32 (crcT 6)) (blk_set (i := 5) (v := .int .u32 (crcT 5)) (blk_set (i := 4) (v := .int .u32 (crcT 4)) (blk_set (i := 3) (v := .int .u32 (crcT 3)) (blk_set (i := 2) (v := .int .u32 (crcT 2)) (blk_set (i := 1) (v := .int .u32 (crcT 1)) (blk_set (i := 0) (v := .int .u32 (crcT 0)) HR.out))))))))))))))))
      have hB := Lib.hid ((((((((((((((((HL.out.setCell (p := ⟨w.heap.size, 0, none⟩) (Nat.le_refl _) (.int .u32 (crcT 0))).setCell (p := ⟨w.heap.size, 1, none⟩) (Nat.le_refl _) (.int .u32 (crcT 1))).setCell (p := ⟨w.heap.size, 2, none⟩) (Nat.le_refl _) (.int .u32 (crcT 2))).setCell (p := ⟨w.heap.size, 3, none⟩) (Nat.le_refl _) (.int .u32 (crcT 3))).setCell (p := ⟨w.heap.size, 4, none⟩) (Nat.le_refl _) (.int .u32 (crcT 4))).setCell (p := ⟨w.heap.size, 5, none⟩) (Nat.le_refl _) (.int .u32 (crcT 5))).setCell (p := ⟨w.heap.size, 6, none⟩) (Nat.le_refl _) (.int .u32 (crcT 6))).setCell (p := ⟨w.heap.size, 7, none⟩) (Nat.le_refl _) (.int .u32 (crcT 7))).setCell (p := ⟨w.heap.size, 8, none⟩) (Nat.le_refl _) (.int .u32 (crcT 8))).setCell (p := ⟨w.heap.size, 9, none⟩) (Nat.le_refl _) (.int .u32 (crcT 9))).setCell (p := ⟨w.heap.size, 10, none⟩) (Nat.le_refl _) (.int .u32 (crcT 10))).setCell (p := ⟨w.heap.size, 11, none⟩) (Nat.le_refl _) (.int .u32 (crcT 11))).setCell (p := ⟨w.heap.size, 12, none⟩) (Nat.le_refl _) (.int .u32 (crcT 12))).setCell (p := ⟨w.heap.size, 13, none⟩) (Nat.le_refl _) (.int .u32 (crcT 13))).setCell (p := ⟨w.heap.size, 14, none⟩) (Nat.le_refl _) (.int .u32 (crcT 14))).setCell (p := ⟨w.heap.size, 15, none⟩) (Nat.le_refl _) (.int .u32 (crcT 15)))
      simp only [List.setIfInBounds_toArray, List.set_cons_zero, List.set_cons_succ] at hb
      have hcf := cell_blk hb
      clear hcR hfR hcT hb
      exact bodyPost_ret (v := .agg crcTab.toArray) (by simp [results, Tryz.results219, go_sem, hcf, crcTab]) rfl ⟨rfl, hB.out⟩
end Go.Proofs.YtajojhfialbfkaaGreatDoor
/- Layer 2: sums of texts. -/
namespace Go.Proofs.YtajojhfialbfkaaGreatDoor
open Go.RowKit
set_option maxRecDepth 100000

theorem and15 (x : Int) : ∃ n : Nat, n < 16 ∧ bits .and .u32 x 15 = (n : Int) := by
  have e : BitVec.ofInt 32 x = BitVec.ofInt 32 (((x % 4294967296).toNat : Nat) : Int) := by
    apply BitVec.eq_of_toNat_eq
    rw [BitVec.toNat_ofInt, BitVec.toNat_ofInt]
    congr 1
    omega
  have h : bits .and .u32 x 15 = bits .and .u32 (((x % 4294967296).toNat : Nat) : Int) ((15 : Nat) : Int) := by
    have e' : BitVec.ofInt IntKind.u32.bits x = BitVec.ofInt IntKind.u32.bits (((x % 4294967296).toNat : Nat) : Int) := e
    unfold bits
    simp only [e']; rfl
  refine ⟨(x % 4294967296).toNat &&& 15, ?_, ?_⟩
  · have := Nat.and_le_right (n := (x % 4294967296).toNat) (m := 15)
    omega
  · rw [h, u32_and_nat _ _ (by omega) (by omega)]

/-- What four bits do to a sum. -/
def crcNib (x : Int) : Int := bits .xor .u32 (x / 16) (crcT (bits .and .u32 x 15).toNat)
def crcByte (x : Int) (c : UInt8) : Int := crcNib (crcNib (bits .xor .u32 x (c.toNat : Int)))
def crcRun (l : List UInt8) : Int := l.foldl crcByte 4294967295
/-- The sum of a text. -/
def crcOf (l : List UInt8) : Int := bits .xor .u32 IntKind.u32.max (crcRun l)

def CrcEnd (l : List UInt8) (w : World) (e : Ending) (w' : World) : Prop := e = .returned (.int .u32 (crcOf l)) ∧ Below w.heap.size w w'

theorem crcRun_snoc (l : List UInt8) (k : Nat) (h : k < l.length) : crcRun (l.take (k + 1)) = crcByte (crcRun (l.take k)) (l.getD k 0) := by
  unfold crcRun
  rw [List.take_succ_eq_append_getElem h, List.foldl_append]
  simp [List.getD, h]

set_option maxHeartbeats 2000000 in
theorem crc_sum (l : List UInt8) (hl : l.length ≤ 100000) (p : Nat) (w : World) (hp : w.heap[p]? = some (.cells #[.string (bstr l)] 9 (0, 0))) :
    Calls Tryz.prog 174 #[.slice (some ⟨p, 0, none⟩) 1 1] w (CrcEnd l w) := by
  have hlt := lt_of_blk hp
  have hct := fun W => crc_table W
  simp only [crcTab] at hct
  have HCt := Lib.hid hct
  clear hct
  have HP := Lib.hid hp
  have HL := Lib.hid hl
  clear hp hl
  go_enter Tryz.func174, Tryz.ntmps174
  go_wp2_with fail
  refine (HCt.out w).mono ?_
  rintro e w1 ⟨rfl, hb1⟩
  have hp1 := blk_below HP.out hb1 hlt
  have HP1 := Lib.hid hp1
  have HB1 := Lib.hid hb1
  clear hb1 hp1
  go_wp2_with fail
  have hq2 := blk_alloc (o' := (Obj.cells #[.int .u32 (crcT 0), .int .u32 (crcT 1), .int .u32 (crcT 2), .int .u32 (crcT 3), .int .u32 (crcT 4), .int .u32 (crcT 5), .int .u32 (crcT 6), .int .u32 (crcT 7), .int .u32 (crcT 8), .int .u32 (crcT 9), .int .u32 (crcT 10), .int .u32 (crcT 11), .int .u32 (crcT 12), .int .u32 (crcT 13), .int .u32 (crcT 14), .int .u32 (crcT 15)] 275)) HP1.out
  have ht2 := blk_new (w := w1) (o := (Obj.cells #[.int .u32 (crcT 0), .int .u32 (crcT 1), .int .u32 (crcT 2), .int .u32 (crcT 3), .int .u32 (crcT 4), .int .u32 (crcT 5), .int .u32 (crcT 6), .int .u32 (crcT 7), .int .u32 (crcT 8), .int .u32 (crcT 9), .int .u32 (crcT 10), .int .u32 (crcT 11), .int .u32 (crcT 12), .int .u32 (crcT 13), .int .u32 (crcT 14), .int .u32 (crcT 15)] 275)) rfl
  have hB2 : Below w.heap.size w (w1.alloc (Obj.cells #[.int .u32 (crcT 0), .int .u32 (crcT 1), .int .u32 (crcT 2), .int .u32 (crcT 3), .int .u32 (crcT 4), .int .u32 (crcT 5), .int .u32 (crcT 6), .int .u32 (crcT 7), .int .u32 (crcT 8), .int .u32 (crcT 9), .int .u32 (crcT 10), .int .u32 (crcT 11), .int .u32 (crcT 12), .int .u32 (crcT 13), .int .u32 (crcT 14), .int .u32 (crcT 15)] 275)) := HB1.out.alloc HB1.out.size _
  have hz2 := size_alloc (w := w1) (o := (Obj.cells #[.int .u32 (crcT 0), .int .u32 (crcT 1), .int .u32 (crcT 2), .int .u32 (crcT 3), .int .u32 (crcT 4), .int .u32 (crcT 5), .int .u32 (crcT 6), .int .u32 (crcT 7), .int .u32 (crcT 8), .int .u32 (crcT 9), .int .u32 (crcT 10), .int .u32 (crcT 11), .int .u32 (crcT 12), .int .u32 (crcT 13), .int .u32 (crcT 14), .int .u32 (crcT 15)] 275)) rfl
  have hz1 := HB1.out.size
  generalize w1.alloc (Obj.cells #[.int .u32 (crcT 0), .int .u32 (crcT 1), .int .u32 (crcT 2), .int .u32 (crcT 3), .int .u32 (crcT 4), .int .u32 (crcT 5), .int .u32 (crcT 6), .int .u32 (crcT 7), .int .u32 (crcT 8), .int .u32 (crcT 9), .int .u32 (crcT 10), .int .u32 (crcT 11), .int .u32 (crcT 12), .int .u32 (crcT 13), .int .u32 (crcT 14), .int .u32 (crcT 15)] 275) = w2 at *
  generalize w1.heap.size = tb at *
  have htc : ∀ n : Nat, n < 16 → ∃ cs : Array Value, w2.heap[tb]? = some (.cells cs 275 (0, 0)) ∧ cs[n]? = some (.int .u32 (crcT n)) := by
    intro n hn
    refine ⟨_, ht2, ?_⟩
    rcases n with _ | _ | _ | _ | _ | _ | _ | _ | _ | _ | _ | _ | _ | _ | _ | _ | n
    all_goals first | rfl | (exfalso; omega)
  have HTC := Lib.hid htc
  have HQ2 := Lib.hid hq2
  have HB2 := Lib.hid hB2
  clear htc hq2 hB2 ht2 HP1 HB1 HCt
  generalize (Value.agg #[.int .u32 (crcT 0), .int .u32 (crcT 1), .int .u32 (crcT 2), .int .u32 (crcT 3), .int .u32 (crcT 4), .int .u32 (crcT 5), .int .u32 (crcT 6), .int .u32 (crcT 7), .int .u32 (crcT 8), .int .u32 (crcT 9), .int .u32 (crcT 10), .int .u32 (crcT 11), .int .u32 (crcT 12), .int .u32 (crcT 13), .int .u32 (crcT 14), .int .u32 (crcT 15)]) = ta
  go_loopw [4, 12] (fun x i wr => ∃ k : Nat, k ≤ 1 ∧ i = .int .i64 (k : Int) ∧ x = .int .u32 (if k = 0 then 4294967295 else crcRun l) ∧ Below w2.heap.size w2 wr) (fun _ i _ => 1 - (intOf i).toNat)
  case atStart => exact ⟨0, by decide, rfl, rfl, Below.refl _ _⟩
  case round =>
    obtain ⟨k, hk, rfl, rfl, hB⟩ := hrel
    have HB := Lib.hid hB
    clear hB
    have hzr := HB.out.size
    rcases Nat.eq_zero_or_pos k with rfl | hpos
    · have hpc := cell_blk (blk_below HQ2.out HB.out (by have := lt_of_blk HQ2.out; omega))
      have hcv := fun (W : World) => Lib.run_convert_string_bytes (P := Tryz.prog) W 9 102 5 (bstr l) Tryz.underlying9 Tryz.underlying102 Tryz.underlying5
      have hsz := size_bstr l
      have hl := HL.out
      simp only [if_true]
      go_wp2_with fail
      have hBW : Below w2.heap.size w2 (Lib.bytesWorld wr 5 (bstr l)) :=
        HB.out.trans ⟨rfl, rfl, rfl, by rw [Lib.bytesWorld_size]; omega, fun x hx => Lib.bytesWorld_at_old _ _ _ x (by omega)⟩
      have hcell : ∀ j, j < l.length → (Lib.bytesWorld wr 5 (bstr l)).cell? ⟨wr.heap.size, j, none⟩ = some (.int .u8 ((l.getD j 0).toNat : Nat)) := by
        intro j hj
        have := Lib.bytesWorld_cell wr 5 (bstr l) j (by omega)
        rw [data_bstr] at this
        rw [this]
      have hTW : ∀ n : Nat, n < 16 → (Lib.bytesWorld wr 5 (bstr l)).cell? ⟨tb, n, none⟩ = some (.int .u32 (crcT n)) := by
        intro n hn
        obtain ⟨cs, h1, h2⟩ := HTC.out n hn
        rw [cell_blk (blk_below h1 hBW (by omega)) n, h2]
      generalize grownCap wr l.length 0 5 = cp at *
      generalize Lib.bytesWorld wr 5 (bstr l) = W at *
      have HBW := Lib.hid hBW
      have HCe := Lib.hid hcell
      have HTW := Lib.hid hTW
      clear hcv hsz hBW hcell hTW hpc
      go_loop [4, 19] (fun x j => ∃ n : Nat, n ≤ l.length ∧ j = .int .i64 (n : Int) ∧ x = .int .u32 (crcRun (l.take n))) (fun _ j => l.length - (intOf j).toNat)
      case atStart => exact ⟨0, Nat.zero_le _, rfl, rfl⟩
      case round =>
        obtain ⟨n, hn, rfl, rfl⟩ := hrel
        rcases Nat.lt_or_ge n l.length with hlt2 | hge2
        · have hx := crcRun_snoc l n hlt2
          have hcx := HCe.out n hlt2
          have HX := Lib.hid hx
          clear hx
          generalize crcRun (l.take n) = x at *
          have hc32 : IntKind.u32.wrap (((l.getD n 0).toNat : Nat) : Int) = (((l.getD n 0).toNat : Nat) : Int) := u32_in _ (by have := (l.getD n 0).toNat_lt; omega)
          generalize l.getD n 0 = c at *
          obtain ⟨x1, hx1⟩ : ∃ x1, bits .xor .u32 x (c.toNat : Int) = x1 := ⟨_, rfl⟩
          obtain ⟨n1, hn1, hb1⟩ := and15 x1
          have ht1 := HTW.out n1 hn1
          obtain ⟨x2, hx2⟩ : ∃ x2, bits .xor .u32 (x1 / 16) (crcT n1) = x2 := ⟨_, rfl⟩
          obtain ⟨n2, hn2, hb2⟩ := and15 x2
          have ht2 := HTW.out n2 hn2
          have HY := Lib.hid (show crcByte x c = bits .xor .u32 (x2 / 16) (crcT n2) by
            unfold crcByte crcNib
            rw [hx1, hb1, Int.toNat_natCast, hx2, hb2, Int.toNat_natCast])
          generalize crcT n1 = t1 at *
          generalize crcT n2 = t2 at *
          go_wp2_with fail
          refine ⟨⟨n + 1, hlt2, by go_num, by rw [HX.out, HY.out]⟩, by simp [intOf]; omega⟩
        · have hnl := Lib.hid (show crcRun (l.take n) = crcRun l by rw [List.take_of_length_le hge2])
          have hk := Lib.hid hn
          go_wp2_with fail
          go_roundw
          case rel => exact ⟨1, Nat.le_refl _, rfl, by rw [hnl.out]; rfl, HBW.out⟩
          case measure => simp [intOf]
    · have hk1 : k = 1 := by omega
      subst hk1
      simp only [Nat.one_ne_zero, if_false]
      go_wp2_with fail
      go_ret
      exact ⟨rfl, HB2.out.trans (HB.out.mono (by omega))⟩
end Go.Proofs.YtajojhfialbfkaaGreatDoor
/- Layer 18: Format. -/
namespace Go.Proofs.YtajojhfialbfkaaGreatDoor
open Go.RowKit
set_option maxRecDepth 100000

/-- The first k sectors are noughts. -/
def blankTo (D : DS) : Nat → DS
  | 0 => D
  | k + 1 => (blankTo D k).wrote k ByteArray.empty
theorem blankTo_len (D : DS) : ∀ k, (blankTo D k).l.length = D.l.length
  | 0 => rfl
  | k + 1 => by rw [blankTo, DS.wrote_len, blankTo_len D k]
theorem blankTo_calm {D : DS} (h : D.calm) : ∀ k, (blankTo D k).calm
  | 0 => h
  | k + 1 => DS.calm_wrote (blankTo_calm h k) _ _

def newSU (j b : Int) : SU := ⟨1, j, b, 0, 1⟩
/-- A formatted disk. -/
def DS.format (D : DS) (j b : Int) : DS := ((blankTo D (2 + j).toNat).sync.wrote 1 (bstr (newSU j b).sector)).sync

theorem suCheck_zero {s : SU} {n : Int} (h : suCheck s n = 0) : suBad s = false ∧ n ≤ 4096 ∧ 2 + s.journal + 32 ≤ n := by
  unfold suCheck at h
  split at h
  · cases h
  · next h1 =>
    split at h
    · cases h
    · split at h
      · cases h
      · exact ⟨by simpa using h1, by omega, by omega⟩

set_option maxHeartbeats 2000000 in
theorem store_format {w : World} {d : Nat} {sv : Value} {D : DS} (h : DiskAt w d sv D) (hc : D.calm) (hn : D.l.length ≤ 4096) (j b : Int) :
    Calls Tryz.prog 49 #[.pointer (some ⟨d, 0, none⟩), .int .i64 j, .int .i64 b] w fun e w' =>
      ((suCheck (newSU j b) D.l.length = 0 ∧ e = unit0 ∧ DiskAt w' d sv (D.format j b)) ∨ (suCheck (newSU j b) D.l.length ≠ 0 ∧ e = failed (suCheck (newSU j b) D.l.length) ∧ DiskAt w' d sv D)) ∧ Fr (DiskF d sv) w w' := by
  have hck := fun W => super_check (newSU j b) D.l.length hn W
  have hhp := fun hj W => super_heap (newSU j b) hj W
  simp only [SU.v, newSU] at hck hhp
  have HCk := Lib.hid hck
  have HHp := Lib.hid hhp
  have H := Lib.hid h
  have HC := Lib.hid hc
  have HN := Lib.hid hn
  clear hck hhp h hc hn
  go_enter Tryz.func49, Tryz.ntmps49
  go_wp2_with fail
  have hb0 := blk_new (w := w) (o := Obj.cells #[.int .u32 1, .int .i64 j, .int .i64 b, .int .i64 0, .int .u32 1] 69) rfl
  have hL0 : Below w.heap.size w (w.alloc (Obj.cells #[.int .u32 1, .int .i64 j, .int .i64 b, .int .i64 0, .int .u32 1] 69)) := (Below.refl _ w).alloc (Nat.le_refl _) _
  have hz0 : w.heap.size < (w.alloc (Obj.cells #[.int .u32 1, .int .i64 j, .int .i64 b, .int .i64 0, .int .u32 1] 69)).heap.size := by simp
  generalize w.alloc (Obj.cells #[.int .u32 1, .int .i64 j, .int .i64 b, .int .i64 0, .int .u32 1] 69) = w0 at *
  have hd0 := H.out.fr (Fr.of_below (F := fun _ => False) hL0) (fun _ _ h => h)
  have hcx := cell_blk hb0
  refine wp_region_perm 4 (fun w' => ∀ i, w'.cell? ⟨w.heap.size, i, none⟩ = #[.int .u32 1, .int .i64 j, .int .i64 b, .int .i64 0, .int .u32 1][i]?) [(0, true), (1, true), (2, false), (3, false)] (by kernel_rfl) (by kernel_rfl) ?_ (by intro c a d v w h; cases d <;> exact h) ?_
  · exact hcx
  simp only [pickOps, List.getElem?_cons_succ, List.getElem?_cons_zero, List.map_cons, List.map_nil, List.drop_succ_cons, List.drop_zero]
  repeat ((with_reducible refine wpMix_read ?_ (fun K hK => ?_)); (focus rfl); apply Exists.intro; refine ⟨fun w' hS => ?_, ?_⟩; (focus (try dsimp only at hS; go_simp; try rfl)); go_simp; refine hK _ ?_; clear hK K)
  refine wpMix_act rfl (fun K hK => ?_)
  go_simp
  refine (disk_len hd0.drew).mono ?_
  rintro e w1 ⟨rfl, rfl⟩
  refine hK _ _ hcx ?_; clear hK K
  repeat ((with_reducible refine wpMix_read ?_ (fun K hK => ?_)); (focus rfl); apply Exists.intro; refine ⟨fun w' hS => ?_, ?_⟩; (focus (try dsimp only at hS; go_simp; try rfl)); go_simp; refine hK _ ?_; clear hK K)
  refine wpMix_act rfl (fun K hK => ?_)
  go_simp
  refine (HCk.out _).mono ?_
  rintro e w1 ⟨rfl, hb1⟩
  have hB1 := blk_below (blk_drew hb0) hb1 hz0
  have hbel1 := hL0.drew.trans (hb1.mono (by show w.heap.size ≤ w0.heap.size; omega))
  have hz1 : w.heap.size < w1.heap.size := Nat.lt_of_lt_of_le hz0 hb1.size
  refine hK _ _ (cell_blk hB1) ?_; clear hK K hcx hd0 hb0 hL0 hb1 hz0
  refine wpMix_nil ?_
  have hd1 := H.out.fr (Fr.of_below (F := fun _ => False) hbel1) (fun _ _ h => h)
  have HB := Lib.hid hB1
  have HBe := Lib.hid hbel1
  have HD1 := Lib.hid hd1
  clear hB1 hbel1 hd1
  obtain ⟨c, hcq⟩ : ∃ c, suCheck ⟨1, j, b, 0, 1⟩ (D.l.length : Int) = c := ⟨_, rfl⟩
  rw [hcq]
  have HCq := Lib.hid (show suCheck (newSU j b) (D.l.length : Int) = c from hcq)
  clear hcq
  have hcB := cell_blk HB.out
  by_cases h0 : c = 0
  · subst h0
    obtain ⟨q1, q2, q3⟩ := suCheck_zero HCq.out
    have q3 : 2 + j + 32 ≤ (D.l.length : Int) := q3
    have qj : 4 ≤ j ∧ j ≤ 512 := by
      have q4 := q1
      unfold suBad newSU at q4
      simp only [Bool.or_eq_false_iff, decide_eq_false_iff_not] at q4
      omega
    obtain ⟨J, hJ⟩ : ∃ J : Nat, 2 + j = (J : Int) := ⟨(2 + j).toNat, by omega⟩
    have hJn : J + 32 ≤ D.l.length := by omega
    have HHp := Lib.hid (HHp.out ⟨by omega, by omega⟩)
    have HJ := Lib.hid (And.intro hJ hJn)
    have HQ := Lib.hid (And.intro q1 qj)
    clear q1 q2 q3 qj hJ hJn
    go_wp2_with fail
    refine (HHp.out _).mono ?_
    rintro e w2 ⟨rfl, hb2⟩
    have HB2 := Lib.hid (blk_below HB.out hb2 hz1)
    have HBe2 := Lib.hid (HBe.out.trans (hb2.mono (by omega)))
    have hz2 : w.heap.size < w2.heap.size := Nat.lt_of_lt_of_le hz1 hb2.size
    clear hb2 hcB
    simp only [HJ.out.1]
    go_wp2_with fail
    go_loopw [22] (fun i wr => ∃ k : Nat, k ≤ J ∧ i = .int .i64 (k : Int) ∧ DiskAt wr d sv (blankTo D k) ∧ wr.heap[w.heap.size]? = some (.cells #[.int .u32 1, .int .i64 j, .int .i64 b, .int .i64 0, .int .u32 1] 69 (0, 0)) ∧ Fr (DiskF d sv) w wr ∧ w.heap.size < wr.heap.size) (fun i _ => J - (intOf i).toNat)
    case atStart => exact ⟨0, Nat.zero_le _, rfl, H.out.fr (Fr.of_below (F := fun _ => False) HBe2.out) (fun _ _ h => h), HB2.out, Fr.of_below HBe2.out, hz2⟩
    case round =>
      obtain ⟨k, hk, rfl, hd, hB, hF, hz⟩ := hrel
      have hJ4 : J ≤ 5000 := by have := HJ.out.2; have := HN.out; omega
      have HF := Lib.hid hF
      have HB3 := Lib.hid hB
      have HD := Lib.hid hd
      have hlt := H.out.lt
      have hnd : ¬ DiskF d sv w.heap.size := fun h => by have := hlt _ h; omega
      have HND := Lib.hid hnd
      clear hF hB hd hlt hnd
      rcases Nat.lt_or_ge k J with hltk | hgek
      · have hwr := disk_write_calm HD.out (blankTo_calm HC.out k) k (by rw [blankTo_len]; have := HJ.out.2; omega) ByteArray.empty (by decide)
        have HW := Lib.hid hwr
        clear hwr
        go_wp2_with fail
        refine HW.out.mono ?_
        rintro e w3 ⟨rfl, hd3, hF3⟩
        have H3 := Lib.hid (And.intro hd3 hF3)
        clear hd3 hF3
        go_wp2_with fail
        go_roundw
        case rel => exact ⟨k + 1, hltk, by go_num, H3.out.1, H3.out.2.blk HB3.out HND.out, HF.out.trans H3.out.2 (fun _ _ h => h), by have := H3.out.2.size; omega⟩
        case measure => simp [intOf]; omega
      · have hkJ : k = J := by omega
        subst hkJ
        have hsy := disk_sync_calm HD.out (blankTo_calm HC.out k) (by rw [blankTo_len]; have := HJ.out.2; omega) (by rw [blankTo_len]; exact HN.out)
        have HS := Lib.hid hsy
        clear hsy
        go_wp2_with fail
        refine HS.out.mono ?_
        rintro e w3 ⟨rfl, hd3, hF3⟩
        have hB3 := hF3.blk HB3.out HND.out
        have HB4 := Lib.hid hB3
        have HD3 := Lib.hid hd3
        have HF3 := Lib.hid (HF.out.trans hF3 (fun _ _ h => h))
        have hcB3 := cell_blk hB3
        have hsm : (newSU j b).small := by
          have q4 := HQ.out.1
          unfold suBad newSU at q4
          simp only [Bool.or_eq_false_iff, decide_eq_false_iff_not] at q4
          have q5 := HQ.out.2
          exact ⟨by show 0 ≤ j; omega, by show j ≤ 512; omega, by show 0 ≤ b; omega, by show b ≤ 256; omega, by show 0 ≤ 4096; omega, by show 1 < 4294967296; omega, by show 1 < 4294967296; omega⟩
        have hcalm := DS.calm_sync (blankTo_calm HC.out k)
        have hlen : (blankTo D k).sync.l.length = D.l.length := by rw [DS.sync_len, blankTo_len]
        have hsw := super_write (newSU j b) hsm HD3.out hcalm.2.1 (by rw [hcalm.2.2]; decide) (by rw [hcalm.2.2]; decide) (by rw [hlen]; exact HN.out) (by rw [hlen]; exact HCq.out)
        simp only [SU.v, newSU] at hsw
        have HW := Lib.hid hsw
        have HCa := Lib.hid hcalm
        have HLe := Lib.hid hlen
        clear hB3 hd3 hF3 hsm hcalm hlen hsw
        go_wp2_with fail
        refine HW.out.mono ?_
        rintro e w4 ⟨⟨rfl, hcan, hd4⟩ | ⟨rfl, hcan, hd4⟩, hF4⟩
        · have hcal4 : ((blankTo D k).sync.wrote 1 (bstr (newSU j b).sector)).calm := DS.calm_wrote HCa.out _ _
          have hlen4 : ((blankTo D k).sync.wrote 1 (bstr (newSU j b).sector)).l.length = D.l.length := by rw [DS.wrote_len, HLe.out]
          have hsy := disk_sync_calm (D := (blankTo D k).sync.wrote 1 (bstr (newSU j b).sector)) hd4 hcal4 (by rw [hlen4]; have := HJ.out.2; omega) (by rw [hlen4]; exact HN.out)
          have HS := Lib.hid hsy
          have HF4 := Lib.hid (HF3.out.trans hF4 (fun _ _ h => h))
          clear hsy hcan hd4 hF4 hcal4 hlen4
          go_wp2_with fail
          refine HS.out.mono ?_
          rintro e w5 ⟨rfl, hd5, hF5⟩
          have H5 := Lib.hid (And.intro hd5 hF5)
          clear hd5 hF5
          go_wp2_with fail
          go_end0
          refine ⟨.inl ⟨HCq.out, rfl, ?_⟩, HF4.out.trans H5.out.2 (fun _ _ h => h)⟩
          have e : (2 + j).toNat = k := by have := HJ.out.1; omega
          unfold DS.format
          rw [e]
          exact H5.out.1
        · rw [DS.calm_can HCa.out] at hcan; cases hcan
  · have hcb : (c == 0) = false := by simpa using h0
    have H0 := Lib.hid h0
    clear h0
    go_wp2_with fail
    refine (fail_any _ _).mono ?_
    rintro e w2 ⟨rfl, rfl⟩
    exact ⟨rfl, .inr ⟨by rw [HCq.out]; exact H0.out, by rw [HCq.out], HD1.out⟩, Fr.of_below HBe.out⟩
end Go.Proofs.YtajojhfialbfkaaGreatDoor
