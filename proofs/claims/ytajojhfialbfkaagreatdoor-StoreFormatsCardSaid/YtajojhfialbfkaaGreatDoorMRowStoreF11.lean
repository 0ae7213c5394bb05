/- Layer 16: try; one more volume; Create: where nothing fails. -/
import Derived.Sort.MapsRangeIn
import Derived.RangeFuncSeq
import Derived.RangeFuncBox
import Derived.RangeFuncLeaves
import Derived.Shelf.Abstract
import Derived.OwnWalkIn
import Derived.TacticsInMore
import Derived.LoopNIn
import Derived.LoopIn
import Derived.Maps.AppendAt
import Derived.Test.YtajojhfialbfkaaGreatDoorShelf
import Derived.Test.YtajojhfialbfkaaGreatDoorMRowStoreF10
namespace Go.Proofs.YtajojhfialbfkaaGreatDoor
open Go.RowKit
set_option maxRecDepth 100000

section
variable {w w' : World} {B : HB} {C : CB} {S : HS} {K : KS} {yg : Nat} {gv lv : Value} {depth : Nat} {cs : List CStep}

set_option maxHeartbeats 1000000 in
/-- What runs within try, with room for m more volumes: R tells its end. -/
theorem core_try_in (h : CW w B C S K yg gv lv depth cs) (hd : 0 < depth) (hl : cs.length ≤ 80000) (L : List EN) (hv : VolsAre K.vols L) (hL : L.length ≤ 100) (m : Nat) (hm : 0 < m) (hm2 : m ≤ 100) (hroom : 2 * (L.length + m) ≤ S.G.l.count 0)
    (a b r : Nat) (f : FuncId) (cap : Array Value) (he : Enters f (#[] ++ cap))
    (ha : w.heap[a]? = some (.cells #[ptr C.c] 35 (0, 0))) (hb : w.heap[b]? = some (.cells #[.int .i64 (m : Int)] 3 (0, 0))) (hr : w.heap[r]? = some (.cells #[cl f cap] 1 (0, 0))) (hnb : ¬ HF B yg lv b) (hnr : ¬ HF B yg lv r)
    (R : Ending → World → Prop)
    (hrun : ∀ w2 lv2 x y, CW w2 B C { S with keep := 2 * (L.length + m) } K yg gv lv2 depth (cs ++ [.low (.keep x y S.keep)]) → (∀ k, lv2.ownBlock = some k → lv.ownBlock = some k ∨ w.heap.size ≤ k) → Fr (HF B yg lv) w w2 →
      Calls Tryz.prog f (#[] ++ cap) w2 fun e w3 => (e = unit0 ∨ ∃ n, e = failed n) ∧ R e w3) :
    Calls Tryz.prog 117 #[ptr a, ptr b, ptr r] w R := by
  have hlen : ∀ ty, (Builtin.len_ #[77] ty #[.map (some C.l)]).run Tryz.prog w.drew = .ok (.int .i64 (L.length : Int)) w.drew := fun ty => vols_len hv (h.fr_new ((Fr.refl (fun _ => False) w).drew)).co.vols ty
  have HLen := Lib.hid hlen
  have hca := cell_blk ha
  have hcb := cell_blk hb
  have hcc := cell_blk h.co.hc
  have hw1 : IntKind.i64.wrap ((L.length : Int) + (m : Int)) = (L.length : Int) + (m : Int) := IntWalk.i64_in _ (by omega)
  obtain ⟨room, hre⟩ : ∃ room : Nat, room = 2 * (L.length + m) := ⟨_, rfl⟩
  rw [← hre] at hrun hroom
  have hw2 : IntKind.i64.wrap (2 * ((L.length : Int) + (m : Int))) = (room : Int) := by rw [IntWalk.i64_in _ (by omega), hre]; omega
  have h1 := h.fr_new ((Fr.refl (fun _ => False) w).drew)
  have HKp := Lib.hid (core_keep h1 hd (by omega) room (by omega))
  have H := Lib.hid h
  have HRun := Lib.hid hrun
  have HA := Lib.hid ha
  have HB := Lib.hid hb
  have HR := Lib.hid hr
  have HNB := Lib.hid hnb
  have HNR := Lib.hid hnr
  have HLn := Lib.hid hL
  have HRoom := Lib.hid hroom
  have HM := Lib.hid (And.intro hm hm2)
  have hen := fun W => he W
  clear h hd hl hv hL hm2 hroom he ha hb hr hnb hnr hrun h1 hm hre hlen
  go_enter Tryz.func117, Tryz.ntmps117
  go_wp2_with fail
  refine wp_region_perm 8 (fun w' => (∀ i, w'.cell? ⟨a, i, none⟩ = #[ptr C.c][i]?) ∧ (∀ i, w'.cell? ⟨b, i, none⟩ = #[.int .i64 (m : Int)][i]?) ∧ (∀ i, w'.cell? ⟨C.c, i, none⟩ = #[.pointer (some ⟨B.h, 0, none⟩), .pointer (some ⟨C.r, 0, none⟩), .map (some C.l), .int .u32 (K.next : Int), .int .u32 (K.epoch : Int)][i]?) ∧ (∀ ty, (Builtin.len_ #[77] ty #[.map (some C.l)]).run Tryz.prog w' = .ok (.int .i64 (L.length : Int)) w')) [(0, true), (1, true), (2, true), (3, true), (4, true), (5, true), (6, true), (7, true)] (by kernel_rfl) (by kernel_rfl) ?_ (by intro c a d v w h; cases d <;> exact h) ?_
  · exact ⟨hca, hcb, hcc, HLen.out⟩
  simp only [pickOps, List.getElem?_cons_succ, List.getElem?_cons_zero, List.map_cons, List.map_nil, List.drop_succ_cons, List.drop_zero]
  repeat ((with_reducible refine wpMix_read ?_ (fun K hK => ?_)); (focus rfl); apply Exists.intro; refine ⟨fun w' hS => ?_, ?_⟩; (focus (try dsimp only at hS; go_simp; try rfl)); go_simp; refine hK _ ?_; clear hK K)
  refine wpMix_nil ?_
  go_wp2_with fail
  refine HKp.out.mono ?_
  rintro e w2 ⟨rfl, ⟨lv2, x, y, h2, hlv2⟩, hF2⟩
  have hF2 : Fr (HF B yg lv) w w2 := ((Fr.refl (HF B yg lv) w).drew).trans hF2 (fun _ _ f => f)
  have hlv2 : ∀ k, lv2.ownBlock = some k → lv.ownBlock = some k ∨ w.heap.size ≤ k := hlv2
  have hna : ¬ HF B yg lv a := H.out.hw.not_alien (.inl ⟨_, _, HA.out, by decide⟩)
  have hca := cell_blk (hF2.blk HA.out hna)
  have hcb := cell_blk (hF2.blk HB.out HNB.out)
  have hcr := cell_blk (hF2.blk HR.out HNR.out)
  have hcc := cell_blk h2.co.hc
  have HG := Lib.hid (heap_free h2.hw)
  have HGo := Lib.hid (HRun.out w2 lv2 x y h2 hlv2 hF2)
  clear h2 hlv2 hF2 hna
  have hm0 := HM.out.1
  have hfree : decide (S.G.l.count 0 < room) = false := by simpa using HRoom.out
  generalize S.G.l.count 0 = fr at *
  go_wp2_with fail
  refine HG.out.mono ?_
  rintro e w3 ⟨rfl, rfl⟩
  simp only [Array.empty_append] at hen HGo
  go_wp2_with fail
  refine HGo.out.mono ?_
  rintro e w3 ⟨rfl | ⟨n, rfl⟩, hR⟩
  · go_wp2_with fail
    go_end0
    exact hR
  · exact ⟨rfl, hR⟩

abbrev errObj : Obj := .cells #[.int .i64 0] 29 (0, 0)

theorem enters_tryin (a b c : Value) : Enters 117 (#[] ++ #[a, b, c]) := fun w => by simp [go_sem]

theorem three_boxes (w : World) (o1 o2 o3 : Obj) :
    (((w.alloc o1).alloc o2).alloc o3).heap[w.heap.size]? = some o1 ∧ (((w.alloc o1).alloc o2).alloc o3).heap[w.heap.size + 1]? = some o2 ∧ (((w.alloc o1).alloc o2).alloc o3).heap[w.heap.size + 1 + 1]? = some o3 ∧
    (((w.alloc o1).alloc o2).alloc o3).heap.size = w.heap.size + 1 + 1 + 1 ∧ Fr (fun _ => False) w (((w.alloc o1).alloc o2).alloc o3) :=
  ⟨blk_alloc (blk_alloc (blk_new rfl)), blk_alloc (blk_new (size_alloc rfl)), blk_new (size_alloc (size_alloc rfl)), size_alloc (size_alloc (size_alloc rfl)), (((Fr.refl _ w).alloc _).alloc _).alloc _⟩

set_option maxHeartbeats 1000000 in
theorem core_try_ok (h : CW w B C S K yg gv lv 0 []) (L : List EN) (hv : VolsAre K.vols L) (hL : L.length ≤ 100) (m : Nat) (hm : 0 < m) (hm2 : m ≤ 100) (hroom : 2 * (L.length + m) ≤ S.G.l.count 0)
    (f : FuncId) (cap : Array Value) (he : Enters f (#[] ++ cap)) (Q : HS → KS → Value → World → Prop)
    (hrun : ∀ (w2 : World) (lv2 : Value) (x y q : Nat), CW w2 B C { S with keep := 2 * (L.length + m) } K yg gv lv2 1 [.low (.keep x y S.keep)] → (∀ k, lv2.ownBlock = some k → lv.ownBlock = some k ∨ w.heap.size ≤ k) → Fr (HF B yg lv) w w2 → w2.heap[q]? = some errObj →
      Calls Tryz.prog f (#[] ++ cap) w2 fun e w3 => e = unit0 ∧ w3.heap[q]? = some errObj ∧ CRun B C yg Q w3) :
    Calls Tryz.prog 60 #[.pointer (some ⟨C.c, 0, none⟩), .int .i64 (m : Int), cl f cap] w fun e w' =>
      e = .returned (.int .i64 0) ∧ ∃ x, CTried B C yg x Q w' ∧ w.heap.size ≤ x := by
  obtain ⟨b1, b2, b3, bz, bF⟩ := three_boxes w (.cells #[ptr C.c] 35) (.cells #[.int .i64 (m : Int)] 3) (.cells #[cl f cap] 1)
  have h3 := h.fr_new bF
  have hnF : ∀ k, w.heap.size ≤ k → ¬ HF B yg lv k := fun k hk f => by have := h.hw.lt k f; omega
  have ht : Calls Tryz.prog 37 #[.pointer (some ⟨B.h, 0, none⟩), cl 117 #[ptr w.heap.size, ptr (w.heap.size + 1), ptr (w.heap.size + 1 + 1)]] (((w.alloc (.cells #[ptr C.c] 35)).alloc (.cells #[.int .i64 (m : Int)] 3)).alloc (.cells #[cl f cap] 1)) fun e w' => e = .returned (.int .i64 0) ∧ ∃ x, CTried B C yg x Q w' ∧ w.heap.size ≤ x := by
    generalize ((w.alloc (.cells #[ptr C.c] 35)).alloc (.cells #[.int .i64 (m : Int)] 3)).alloc (.cells #[cl f cap] 1) = w3 at *
    refine (ctry_ok h3 117 #[ptr w.heap.size, ptr (w.heap.size + 1), ptr (w.heap.size + 1 + 1)] (enters_tryin _ _ _) Q ?_).mono ?_
    · simp only [Array.empty_append]
      have hFe : Fr (HF B yg lv) w3 ((deeper w3 B.g 0).alloc errObj) := ((Fr.refl (HF B yg lv) w3).setCell (p := ⟨B.g, 1, none⟩) (fun _ => .inl (by simp)) _).alloc _
      have hq : ((deeper w3 B.g 0).alloc errObj).heap[w3.heap.size]? = some errObj := by
        have := blk_new (w := deeper w3 B.g 0) (o := errObj) rfl
        rwa [size_deeper] at this
      refine core_try_in h3.enter (by decide) (by simp) L hv hL m hm hm2 hroom _ _ _ f cap he (hFe.blk b1 (hnF _ (by omega))) (hFe.blk b2 (hnF _ (by omega))) (hFe.blk b3 (hnF _ (by omega))) (hnF _ (by omega)) (hnF _ (by omega)) _ ?_
      intro w2 lv2 x y hW hlv hF
      have hge : w.heap.size ≤ ((deeper w3 B.g 0).alloc errObj).heap.size := by rw [show ((deeper w3 B.g 0).alloc errObj).heap.size = w3.heap.size + 1 from by rw [size_alloc (size_deeper w3 B.g 0)]]; omega
      refine (hrun w2 lv2 x y w3.heap.size hW (fun k hk => (hlv k hk).imp_right (fun f => Nat.le_trans hge f)) (((bF.mono (G := HF B yg lv) (fun _ _ f => f.elim)).trans hFe (fun _ _ f => f)).trans hF (fun _ _ f => f)) (hF.blk hq (hnF _ (by omega)))).mono ?_
      rintro e w4 ⟨rfl, h1, h2⟩
      exact ⟨.inl rfl, rfl, h1, h2⟩
    · rintro e w' ⟨rfl, hT⟩
      exact ⟨rfl, _, hT, by omega⟩
  have HT := Lib.hid ht
  have hc := cell_blk (bF.blk h.co.hc (fun f => f))
  clear ht hrun h h3 hv hL hm hm2 hroom he b1 b2 b3 bz bF hnF
  go_enter Tryz.func60, Tryz.ntmps60
  go_wp2_with fail
  refine HT.out.mono ?_
  rintro e w' ⟨rfl, hx⟩
  have HX := Lib.hid hx
  clear hx hc
  go_wp2_with fail
  go_ret
  exact ⟨rfl, HX.out⟩

/-- What more$1 calls: an entry is made. -/
theorem core_more_in (h : CW w B C S K yg gv lv depth cs) (hd : 0 < depth) (hl : cs.length ≤ 70000) (hK : K.next + 1 < 4294967296) (a mk i : Nat) (f : FuncId) (cap : Array Value) (he : Enters f (#[] ++ cap)) (E : EN)
    (ha : w.heap[a]? = some (.cells #[ptr C.c] 35 (0, 0))) (hmk : w.heap[mk]? = some (.cells #[cl f cap] 128 (0, 0))) (hi : w.heap[i]? = some (.cells #[uk 0] 47 (0, 0)))
    (hni : ¬ HF B yg lv i) (hnm : ¬ HF B yg lv mk)
    (hmade : ∀ w2, Fr (fun _ => False) w w2 → Calls Tryz.prog f (#[] ++ cap) w2 fun e w3 => e = .returned (ev E) ∧ Fr (fun _ => False) w2 w3) :
    Calls Tryz.prog 115 (#[] ++ #[ptr a, ptr mk, ptr i]) w fun e w' => e = unit0 ∧
      ∃ w2 lv' x y x1 x2 x3 x4, CW w2 B C S { K with next := K.next + 1, vols := mput K.vols K.next (some (E.at K.next K.epoch)) } yg gv lv' depth (cs ++ [.next x y K.next, .vol false x1 x2 x3 x4 K.next (K.vols K.next)]) ∧
        (∀ k, lv'.ownBlock = some k → lv.ownBlock = some k ∨ w.heap.size ≤ k) ∧ w' = w2.setCell ⟨i, 0, none⟩ (uk K.next) ∧ Fr (CF B C yg lv) w w2 ∧ w2.heap[i]? = some (.cells #[uk 0] 47 (0, 0)) := by
  have hnot : ∀ {k : Nat} {o : Array Value} {t : TypeId}, w.heap[k]? = some (.cells o t (0, 0)) → t ≠ 79 → ¬ HF B yg lv k → ¬ CF B C yg lv k := by
    rintro k o t hb ht hn (f | f)
    · exact hn f
    · simp only [List.mem_cons, List.not_mem_nil, or_false] at f
      rcases f with rfl | rfl | rfl
      · exact ne_blk h.co.hc hb ht.symm rfl
      · exact map_ne_cells h.co.vols.raw hb rfl
      · exact map_ne_cells h.ix.raw hb rfl
  have hna := hnot ha (by decide) (h.hw.not_alien (.inl ⟨_, _, ha, by decide⟩))
  have hnm' := hnot hmk (by decide) hnm
  have hni' := hnot hi (by decide) hni
  have hca := cell_blk ha
  have hcm := cell_blk hmk
  have hen := fun W => he W
  have H := Lib.hid h
  have HD := Lib.hid hd
  have HL := Lib.hid hl
  have HK := Lib.hid hK
  have HA := Lib.hid ha
  have HM := Lib.hid hmk
  have HI := Lib.hid hi
  have HN := Lib.hid (And.intro hna (And.intro hnm' hni'))
  have HMade := Lib.hid hmade
  clear h hd hl hK he ha hmk hi hni hnm hmade hnot hna hnm' hni'
  simp only [Array.empty_append] at hen ⊢
  go_enter Tryz.func115, Tryz.ntmps115
  go_wp2_with fail
  refine wp_region_perm 4 (fun w' => (∀ i, w'.cell? ⟨a, i, none⟩ = #[ptr C.c][i]?) ∧ (∀ i, w'.cell? ⟨mk, i, none⟩ = #[cl f cap][i]?)) [(0, true), (1, true), (2, false), (3, false)] (by kernel_rfl) (by kernel_rfl) ?_ (by intro c a d v w h; cases d <;> exact h) ?_
  · exact ⟨hca, hcm⟩
  simp only [pickOps, List.getElem?_cons_succ, List.getElem?_cons_zero, List.map_cons, List.map_nil, List.drop_succ_cons, List.drop_zero]
  repeat ((with_reducible refine wpMix_read ?_ (fun K hK => ?_)); (focus rfl); apply Exists.intro; refine ⟨fun w' hS => ?_, ?_⟩; (focus (try dsimp only at hS; go_simp; try rfl)); go_simp; refine hK _ ?_; clear hK K)
  refine wpMix_act rfl (fun Kk hK => ?_)
  go_simp
  have hmd := HMade.out w.drew ((Fr.refl (fun _ => False) w).drew)
  simp only [Array.empty_append] at hmd
  refine hmd.mono ?_
  rintro e w3 ⟨rfl, hF3⟩
  have hF3 : Fr (fun _ => False) w w3 := ((Fr.refl (fun _ => False) w).drew).trans hF3 (fun _ _ f => f)
  have h3 := H.out.fr_new hF3
  have ha3 := hF3.blk HA.out (fun f => f)
  have hm3 := hF3.blk HM.out (fun f => f)
  have hi3 := hF3.blk HI.out (fun f => f)
  refine hK _ _ ⟨cell_blk ha3, cell_blk hm3⟩ ?_; clear hK Kk hmd
  refine wpMix_act rfl (fun Kk hK => ?_)
  go_simp
  refine (core_add h3 HD.out (by have := HL.out; omega) E HK.out).mono ?_
  rintro e w4 ⟨rfl, ⟨lv', x, y, x1, x2, x3, x4, h4, hlv⟩, hF4⟩
  have hFw : Fr (CF B C yg lv) w w4 := (hF3.mono (fun _ _ f => f.elim)).trans hF4 (fun _ _ f => f)
  have ha4 := hFw.blk HA.out HN.out.1
  have hm4 := hFw.blk HM.out HN.out.2.1
  have hi4 := hFw.blk HI.out HN.out.2.2
  refine hK _ _ ⟨cell_blk ha4, cell_blk hm4⟩ ?_; clear hK Kk
  refine wpMix_nil ?_
  have hz3 := hF3.size
  have hci := cell_blk hi4
  have hfi := frozen_blk hi4
  have R := Lib.hid (show CW w4 B C S { K with next := K.next + 1, vols := mput K.vols K.next (some (E.at K.next K.epoch)) } yg gv lv' depth (cs ++ [.next x y K.next, .vol false x1 x2 x3 x4 K.next (K.vols K.next)]) ∧ (∀ k, lv'.ownBlock = some k → lv.ownBlock = some k ∨ w.heap.size ≤ k) ∧ Fr (CF B C yg lv) w w4 from
    ⟨h4, fun k hk => (hlv k hk).imp_right (fun f => Nat.le_trans hz3 f), hFw⟩)
  have HI4 := Lib.hid hi4
  clear h3 ha3 hm3 hi3 hF3 h4 hlv hF4 hFw ha4 hm4 hi4 hz3 hca hcm
  go_wp2_with fail
  go_end0
  exact ⟨rfl, w4, lv', x, y, x1, x2, x3, x4, R.out.1, R.out.2.1, rfl, R.out.2.2, HI4.out⟩
end
end Go.Proofs.YtajojhfialbfkaaGreatDoor
/- Layer 16: a captured variable is stored at the end of a run: the ways back are then no more of use. -/
namespace Go.Proofs.YtajojhfialbfkaaGreatDoor
open Go.RowKit
set_option maxRecDepth 100000

def clF : Value → FuncId × Array Value
  | .func (.func f) _ cap => (f, cap)
  | _ => (0, #[])
/-- A way back of which nothing but its value is known. -/
def Step.dull (s : Step) : Step := .ext (clF s.val).1 (clF s.val).2 []
theorem Step.dull_val (s : Step) : s.dull.val = s.val := by
  obtain ⟨f, cap, h⟩ := s.val_cl
  show cl (clF s.val).1 (clF s.val).2 = s.val
  rw [h]; rfl
def CStep.dull (C : CB) (s : CStep) : CStep := .low (s.step C).dull

section
variable {w w' : World} {B : HB} {C : CB} {S : HS} {K : KS} {yg : Nat} {gv lv : Value} {depth : Nat} {steps : List Step} {cs : List CStep}

theorem HW.far (h : HW w B S yg gv lv depth steps) {x : Nat} (hF : Fr (fun k => k = x) w w') (hx : ¬ HF B yg lv x) (hg : gv.ownBlock ≠ some x) : HW w' B S yg gv lv depth (steps.map Step.dull) := by
  have hl : ∀ k ∈ [B.h, B.d, B.db, B.m, B.mb, B.rf, yg, B.g], ¬ k = x := fun k hk e => hx (.inl (e ▸ hk))
  refine ⟨hF.blk h.hh (hl _ (by simp)), ?_, ?_, h.refs.fr hF (hl _ (by simp)), h.young.fr hF (hl _ (by simp)), ownsRow_fr h.gone hF (fun k hk e => hg (e ▸ hk)), ?_, h.apart, h.lapart, h.gapart, fun s hs => ?_⟩
  · refine h.disk.fr hF ?_
    rintro k (rfl | hk)
    · exact hl _ (by simp)
    · injection hk with hk; subst hk; exact hl _ (by simp)
  · refine h.gr.fr hF ?_
    rintro k (rfl | hk)
    · exact hl _ (by simp)
    · injection hk with hk; subst hk; exact hl _ (by simp)
  · rw [List.map_map, show Step.val ∘ Step.dull = Step.val from funext Step.dull_val]
    exact h.log.fr hF (fun k hk e => hx (e ▸ h.logF hk))
  · obtain ⟨s0, _, rfl⟩ := List.mem_map.1 hs
    exact ⟨fun p hp => (by simp [Step.dull, Step.boxes] at hp), fun _ _ _ _ _ e => (by cases e), fun _ _ _ _ _ _ _ _ e => (by cases e)⟩

theorem CW.far (h : CW w B C S K yg gv lv depth cs) {x : Nat} (hF : Fr (fun k => k = x) w w') (hx : ¬ HF B yg lv x) (hg : gv.ownBlock ≠ some x) (hc : x ∉ [C.c, C.r, C.x, C.l, C.ix]) : CW w' B C S K yg gv lv depth (cs.map (CStep.dull C)) := by
  have hn : ∀ k ∈ [C.c, C.r, C.x, C.l, C.ix], ¬ k = x := fun k hk e => hc (e ▸ hk)
  refine ⟨?_, ⟨hF.blk h.co.hc (hn _ (by simp)), hF.blk h.co.hr (hn _ (by simp)), hF.blk h.co.hx (hn _ (by simp)), h.co.vols.fr hF (hn _ (by simp))⟩, h.ix.fr hF (hn _ (by simp)), h.apart⟩
  have := h.hw.far hF hx hg
  rw [List.map_map] at this ⊢
  exact this

/-- A block of cells is none of the core's own. -/
theorem CW.not_own (h : CW w B C S K yg gv lv depth cs) {k : Nat} {o : Array Value} {t : TypeId} {fr : Nat × Nat} (hb : w.heap[k]? = some (.cells o t fr)) (ht : ([79, 205, 208] : List Nat).contains t = false) : k ∉ [C.c, C.r, C.x, C.l, C.ix] := by
  have hne : ∀ a : Nat, ([79, 205, 208] : List Nat).contains a = true → a ≠ t := by
    rintro a ha rfl
    rw [ht] at ha; cases ha
  intro f
  simp only [List.mem_cons, List.not_mem_nil, or_false] at f
  rcases f with rfl | rfl | rfl | rfl | rfl
  · exact ne_blk h.co.hc hb (hne _ (by decide)) rfl
  · exact ne_blk h.co.hr hb (hne _ (by decide)) rfl
  · exact ne_blk h.co.hx hb (hne _ (by decide)) rfl
  · exact map_ne_cells h.co.vols.raw hb rfl
  · exact map_ne_cells h.ix.raw hb rfl
theorem CW.not_CF (h : CW w B C S K yg gv lv depth cs) {k : Nat} {o : Array Value} {t : TypeId} {fr : Nat × Nat} (hb : w.heap[k]? = some (.cells o t fr)) (ht : ([79, 205, 208] : List Nat).contains t = false) (hn : ¬ HF B yg lv k) : ¬ CF B C yg lv k := by
  rintro (f | f)
  · exact hn f
  · refine h.not_own hb ht ?_
    simp only [List.mem_cons, List.not_mem_nil, or_false] at f ⊢
    rcases f with f | f | f <;> simp [f]

theorem enters_morein (a b c : Value) : Enters 115 (#[] ++ #[a, b, c]) := fun w => by simp [go_sem]

/-- What one more volume makes of a core. -/
def KS.add (K : KS) (E : EN) : KS := { K with next := K.next + 1, vols := mput K.vols K.next (some (E.at K.next K.epoch)) }

set_option maxHeartbeats 2000000 in
theorem core_more_ok (h : CW w B C S K yg gv lv 0 []) (ok : S.G.ok) (hg0 : S.gone = []) (L : List EN) (hv : VolsAre K.vols L) (hL : L.length < 16) (hroom : 2 * (L.length + 1) ≤ S.G.l.count 0) (hK : K.next + 1 < 4294967296)
    (f : FuncId) (cap : Array Value) (he : Enters f (#[] ++ cap)) (E : EN)
    (hmade : ∀ w2, Fr (HF B yg lv) w w2 → Calls Tryz.prog f (#[] ++ cap) w2 fun e w3 => e = .returned (ev E) ∧ Fr (fun _ => False) w2 w3) :
    Calls Tryz.prog 58 #[.pointer (some ⟨C.c, 0, none⟩), cl f cap] w fun e w' =>
      e = .returned (.tuple #[uk K.next, .int .i64 0]) ∧ CW w' B C { S with keep := 2 * (L.length + 1) } (K.add E) yg (.slice none 0 0) (.slice none 0 0) 0 [] ∧ Fr (CF B C yg lv) w w' := by
  have hFb : Fr (fun _ => False) w ((w.alloc (.cells #[ptr C.c] 35)).alloc (.cells #[cl f cap] 128)) := ((Fr.refl _ w).alloc _).alloc _
  obtain ⟨b1, b2, b3, bz, bF⟩ := three_boxes w (.cells #[ptr C.c] 35) (.cells #[cl f cap] 128) (.cells #[uk 0] 47)
  have hlen : ∀ ty, (Builtin.len_ #[77] ty #[.map (some C.l)]).run Tryz.prog ((w.alloc (.cells #[ptr C.c] 35)).alloc (.cells #[cl f cap] 128)) = .ok (.int .i64 (L.length : Int)) ((w.alloc (.cells #[ptr C.c] 35)).alloc (.cells #[cl f cap] 128)) := fun ty => vols_len hv (h.fr_new hFb).co.vols ty
  have hcc := cell_blk (hFb.blk h.co.hc (fun f => f))
  have hnF : ∀ k, w.heap.size ≤ k → ¬ HF B yg lv k := fun k hk f => by have := h.hw.lt k f; omega
  have hgl : ∀ k, gv.ownBlock = some k → k < w.heap.size := fun k hk => (h.hw.gone.lt k hk).2
  have h3 := h.fr_new bF
  have hL2 : (L.length : Int) < 16 := by omega
  have ht : Calls Tryz.prog 60 #[.pointer (some ⟨C.c, 0, none⟩), .int .i64 1, cl 115 #[ptr w.heap.size, ptr (w.heap.size + 1), ptr (w.heap.size + 1 + 1)]] (((w.alloc (.cells #[ptr C.c] 35)).alloc (.cells #[cl f cap] 128)).alloc (.cells #[uk 0] 47)) fun e w' =>
      e = .returned (.int .i64 0) ∧ w'.heap[w.heap.size + 1 + 1]? = some (.cells #[uk K.next] 47 (0, 0)) ∧ CW w' B C { S with keep := 2 * (L.length + 1) } (K.add E) yg (.slice none 0 0) (.slice none 0 0) 0 [] ∧ Fr (CF B C yg lv) w w' := by
    generalize ((w.alloc (.cells #[ptr C.c] 35)).alloc (.cells #[cl f cap] 128)).alloc (.cells #[uk 0] 47) = w3 at *
    refine (core_try_ok h3 L hv (by omega) 1 (by decide) (by decide) hroom 115 _ (enters_morein _ _ _)
      (fun S' K' lv2 w2 => S' = { S with keep := 2 * (L.length + 1) } ∧ K' = K.add E ∧ w2.heap[w.heap.size + 1 + 1]? = some (.cells #[uk K.next] 47 (0, 0)) ∧ ¬ HF B yg lv2 (w.heap.size + 1 + 1) ∧ (∀ k, lv2.ownBlock = some k → lv.ownBlock = some k ∨ w3.heap.size ≤ k) ∧ Fr (fun k => CF B C yg lv k ∨ w.heap.size ≤ k) w3 w2) ?_).mono ?_
    · intro w2 lv2 x y q h2 hlv2 hF2 hq
      have hnF2 : ∀ k, w.heap.size ≤ k → k < w3.heap.size → ¬ HF B yg lv2 k := by
        rintro k hk hk2 (f | f)
        · exact hnF k hk (.inl f)
        · rcases hlv2 k f with f | f
          · exact hnF k hk (.inr f)
          · omega
      have c1 := hF2.blk b1 (hnF _ (by omega))
      have c2 := hF2.blk b2 (hnF _ (by omega))
      have c3 := hF2.blk b3 (hnF _ (by omega))
      refine (core_more_in h2 (by decide) (by simp) hK _ _ _ f cap he E c1 c2 c3 (hnF2 _ (by omega) (by omega)) (hnF2 _ (by omega) (by omega)) ?_).mono ?_
      · intro w4 hF4
        exact hmade w4 (((bF.mono (G := HF B yg lv) (fun _ _ f => f.elim)).trans hF2 (fun _ _ f => f)).trans hF4 (fun _ _ f => f.elim))
      · rintro e w5 ⟨rfl, w4, lv4, x5, y5, x1, x2, x3, x4, h4, hlv4, rfl, hF4, hi4⟩
        have hz2 := hF2.size
        have hF5 : Fr (fun k => k = w.heap.size + 1 + 1) w4 (w4.setCell ⟨w.heap.size + 1 + 1, 0, none⟩ (uk K.next)) := (Fr.refl (fun k => k = w.heap.size + 1 + 1) w4).setCell (p := ⟨w.heap.size + 1 + 1, 0, none⟩) (fun _ => rfl) _
        have hn4 : ¬ HF B yg lv4 (w.heap.size + 1 + 1) := by
          rintro (f | f)
          · exact hnF _ (by omega) (.inl f)
          · rcases hlv4 _ f with f | f
            · exact hnF2 _ (by omega) (by omega) (.inr f)
            · omega
        have h5 := h4.far hF5 hn4 (fun e => by have := hgl _ e; omega) (h4.not_own hi4 (by decide))
        have hlv5 : ∀ k, lv4.ownBlock = some k → lv.ownBlock = some k ∨ w3.heap.size ≤ k := fun k hk => (hlv4 k hk).elim (fun f => hlv2 k f) (fun f => .inr (by omega))
        have hF35 : Fr (fun k => CF B C yg lv k ∨ w.heap.size ≤ k) w3 (w4.setCell ⟨w.heap.size + 1 + 1, 0, none⟩ (uk K.next)) := by
          refine ((hF2.mono (fun k _ f => .inl (.inl f))).trans hF4 ?_).trans hF5 (fun k _ f => .inr (by omega))
          rintro k hk (f | f)
          · rcases f with f | f
            · exact .inl (.inl (.inl f))
            · rcases hlv2 k f with f | f
              · exact .inl (.inl (.inr f))
              · omega
          · exact .inl (.inr f)
        have hq4 := hF4.blk hq (h2.not_CF hq (by decide) (h2.hw.not_alien (.inl ⟨_, _, hq, by decide⟩)))
        refine ⟨rfl, hF5.blk hq4 (ne_blk hq4 hi4 (by decide)), _, _, _, _, _, h5, ⟨rfl, rfl, ?_, hn4, hlv5, hF35⟩, ok, ?_, ?_⟩
        · have := blk_set (i := 0) (v := uk K.next) hi4
          simpa only [List.setIfInBounds_toArray, List.set_cons_zero] using this
        · rw [show ({ S with keep := 2 * (L.length + 1) } : HS).gone = [] from hg0]; simp
        · rw [show ({ S with keep := 2 * (L.length + 1) } : HS).gone = [] from hg0]; simp
    · rintro e w' ⟨rfl, x, ⟨S', K', w2, lv2, ⟨rfl, rfl, hi, hn, hlv2, hF2⟩, hC, hF, q1⟩, hx⟩
      refine ⟨rfl, hF.blk hi ?_, ?_, ?_⟩
      · rintro (f | e)
        · exact hn f
        · omega
      · have : ({ S with keep := 2 * (L.length + 1) } : HS).free = { S with keep := 2 * (L.length + 1) } := by
          unfold HS.free
          simp only [hg0, List.foldl_nil]
        rw [this] at hC
        exact hC
      · refine (bF.mono (G := CF B C yg lv) (fun _ _ f => f.elim)).trans (hF2.trans hF (G := fun k => HF B yg lv2 k ∨ k = x) (F := fun k => CF B C yg lv k ∨ w.heap.size ≤ k) ?_) ?_
        · rintro k hk (f | f)
          · rcases f with f | f
            · exact .inl (.inl (.inl f))
            · rcases hlv2 k f with f | f
              · exact .inl (.inl (.inr f))
              · omega
          · omega
        · rintro k hk (f | f)
          · exact f
          · omega
  have HT := Lib.hid ht
  clear ht h ok hg0 hv hL hroom hK he hmade b1 b2 b3 bz bF hnF hgl h3 hFb
  go_enter Tryz.func58, Tryz.ntmps58
  go_wp2_with fail
  refine HT.out.mono ?_
  rintro e w' ⟨rfl, hi, hC, hF⟩
  have hci := cell_blk hi
  have HC := Lib.hid hC
  have HF := Lib.hid hF
  clear hC hi hcc hF
  go_wp2_with fail
  go_ret2
  exact ⟨rfl, HC.out, HF.out⟩

theorem create_in (b n : Nat) (hb : w.heap[b]? = some (.cells #[.int .i64 (n : Int)] 3 (0, 0))) :
    Calls Tryz.prog 59 #[ptr b] w fun e w' => e = .returned (ev ⟨0, 0, false, n, 0, 0⟩) ∧ Fr (fun _ => False) w w' := by
  have hc := cell_blk (blk_alloc (o' := .cells #[.int .u32 0, .int .u32 0, .bool false, .int .i64 0, .int .i64 0, .int .u32 0] 50) hb)
  clear hb
  go_enter Tryz.func59, Tryz.ntmps59
  go_wp2_with fail
  exact bodyPost_ret (v := ev ⟨0, 0, false, n, 0, 0⟩) (by simp [results, Tryz.results59, go_sem, ev]) rfl ⟨rfl, (Fr.refl _ w).alloc _⟩

theorem enters_create (a : Value) : Enters 59 (#[] ++ #[a]) := fun w => by simp [go_sem]

set_option maxHeartbeats 1000000 in
theorem core_create_ok (h : CW w B C S K yg gv lv 0 []) (ok : S.G.ok) (hg0 : S.gone = []) (L : List EN) (hv : VolsAre K.vols L) (hL : L.length < 16) (hroom : 2 * (L.length + 1) ≤ S.G.l.count 0) (hK : K.next + 1 < 4294967296) (n : Nat) (hn1 : 1 ≤ n) (hn2 : n ≤ 2048) :
    Calls Tryz.prog 22 #[.pointer (some ⟨C.c, 0, none⟩), .int .i64 (n : Int)] w fun e w' =>
      e = .returned (.tuple #[uk K.next, .int .i64 0]) ∧ CW w' B C { S with keep := 2 * (L.length + 1) } (K.add ⟨0, 0, false, n, 0, 0⟩) yg (.slice none 0 0) (.slice none 0 0) 0 [] ∧ Fr (CF B C yg lv) w w' := by
  have hF : Fr (fun _ => False) w (w.alloc (.cells #[.int .i64 (n : Int)] 3)) := (Fr.refl _ w).alloc _
  have hb := blk_new (w := w) (o := .cells #[.int .i64 (n : Int)] 3) rfl
  have h1 := h.fr_new hF
  have hnF : ¬ HF B yg lv w.heap.size := fun f => by have := h.hw.lt _ f; omega
  have hm := core_more_ok h1 ok hg0 L hv hL hroom hK 59 #[ptr w.heap.size] (enters_create _) ⟨0, 0, false, n, 0, 0⟩ (by
    intro w2 hF2
    simp only [Array.empty_append]
    exact create_in w.heap.size n (hF2.blk hb hnF))
  have HM := Lib.hid hm
  have HF := Lib.hid hF
  have hd1 : decide ((n : Int) < 1) = false := by simp; omega
  have hn3 : (n : Int) ≤ 2048 := by omega
  clear hm h ok hg0 hv hL hroom hK hF hb h1 hnF hn1 hn2
  go_enter Tryz.func22, Tryz.ntmps22
  go_wp2_with fail
  refine HM.out.mono ?_
  rintro e w' ⟨rfl, hC, hF2⟩
  have HC := Lib.hid hC
  have HF2 := Lib.hid ((HF.out.mono (G := CF B C yg lv) (fun _ _ f => f.elim)).trans hF2 (fun _ _ f => f))
  clear hC hF2
  go_wp2_with fail
  go_ret2
  exact ⟨rfl, HC.out, HF2.out⟩
end
end Go.Proofs.YtajojhfialbfkaaGreatDoor
/- A range over a map as a function: which keys have come. Plain: no program. -/
namespace Go.Proofs.YtajojhfialbfkaaGreatDoor
open Go.RowKit Go.Maps Go.MapKept Go.ChangeMaps

section
variable {α β : Type} {P : Program} {k : TypeId} {ke : α → Value} {ve : β → Value} {ok : α → Prop} {w : World} {b r : Nat} {f : α → Option β} {ss : List α}

/-- The block r ranges over the map b that holds f; the keys of ss have come, in that order. -/
def MapRange (ke : α → Value) (ve : β → Value) (ok : α → Prop) (w : World) (b r : Nat) (f : α → Option β) (ss : List α) : Prop :=
  ∃ es clock since seen c0, w.heap[b]? = some (.map es clock) ∧ Stamped es clock ∧
    (∀ x ∈ es.toList, ∃ a c, ok a ∧ x.key = ke a ∧ x.val = ve c ∧ f a = some c) ∧ (∀ a c, f a = some c → ok a ∧ ∃ x ∈ es.toList, x.key = ke a) ∧
    w.heap[r]? = some (.mapIter (some b) since seen c0) ∧ (∀ x ∈ es.toList, x.born < since) ∧ since ≤ c0 ∧ since ≤ clock ∧
    ss.Nodup ∧ (∀ x ∈ es.toList, seen.contains x.born = true ↔ ∃ a ∈ ss, x.key = ke a) ∧ (∀ a ∈ ss, f a ≠ none)

theorem MapRange.is (h : MapRange ke ve ok w b r f ss) : MapIs ke ve ok w b f := by
  obtain ⟨es, clock, since, seen, c0, hb, hst, h1, h2, _⟩ := h
  exact ⟨es, clock, hb, hst, h1, h2⟩

theorem MapIs.range (h : MapIs ke ve ok w b f) {t e : TypeId} (ht : P.underlying t = some (.map k e)) :
    ∃ w', (Instr.range t (.map (some b))).run P w = .ok (.pointer (some ⟨w.heap.size, 0, none⟩)) w' ∧ MapRange ke ve ok w' b w.heap.size f [] ∧ w.grownBy w' none ∧ w'.heap.size = w.heap.size + 1 := by
  obtain ⟨es, clock, hb, hst, h1, h2⟩ := h
  have hlt := lt_of_blk hb
  refine ⟨_, run_range_map w t k e b es clock ht hb, ⟨es, clock, clock, #[], clock, blk_alloc hb, hst, h1, h2, blk_new rfl, ((stamped_iff es clock).1 hst).1, Nat.le_refl _, Nat.le_refl _, List.nodup_nil, ?_, ?_⟩, World.grownBy_alloc w _ none, by simp⟩
  · intro x hx; simp
  · intro a ha; cases ha

theorem grownBy_setBlock (w : World) (r : Nat) (o : Obj) : w.grownBy (setBlock w r o) (some r) := by
  have hf := setBlock_fr w r o
  exact ⟨hf.os, hf.tape, hf.output, hf.size, fun x hx hn => hf.block x hx (fun e => hn (by rw [e]))⟩

theorem MapRange.left (h : MapRange ke ve ok w b r f ss) : ∃ es clock since seen c0, w.heap[b]? = some (.map es clock) ∧ w.heap[r]? = some (.mapIter (some b) since seen c0) ∧ w.rangeLeft b r = (leftOf es seen).size := by
  obtain ⟨es, clock, since, seen, c0, hb, _, _, _, hr, _⟩ := h
  exact ⟨es, clock, since, seen, c0, hb, hr, by simp only [World.rangeLeft, hb, hr]⟩

/-- The step: all have come; or one more comes. -/
theorem MapRange.next (h : MapRange ke ve ok w b r f ss) (inj : ∀ a a', ke a = ke a' → a = a') (ty : TypeId) :
    ((∀ a, a ∈ ss ↔ f a ≠ none) ∧ (Instr.next (.pointer (some ⟨r, 0, none⟩)) false ty).run P w = .ok (.tuple #[.bool false]) w) ∨
    ∃ a c w', f a = some c ∧ ok a ∧ a ∉ ss ∧ (Instr.next (.pointer (some ⟨r, 0, none⟩)) false ty).run P w = .ok (.tuple #[.bool true, ke a, ve c]) w' ∧ MapRange ke ve ok w' b r f (ss ++ [a]) ∧ w'.rangeLeft b r < w.rangeLeft b r ∧
      w.grownBy w' (some r) ∧ w'.heap.size = w.heap.size ∧ (Instr.entry (.pointer (some ⟨r, 0, none⟩))).run P w' = .ok (.tuple #[ke a, ve c]) w' := by
  obtain ⟨es, clock, since, seen, c0, hb, hst, h1, h2, hr, hold, hsc, hsk, hnd, hse, hin⟩ := h
  have hstp := (stamped_iff es clock).1 hst
  have hrb : r ≠ b := by
    rintro rfl
    rw [hb] at hr; injection hr with hr; cases hr
  rcases run_next_at (P := P) w ty r b since c0 seen es clock hr hb hold hsc with ⟨h0, hrun⟩ | ⟨e, he, w1, hal, hrun⟩
  · refine .inl ⟨fun a => ⟨hin a, fun hne => ?_⟩, hrun⟩
    obtain ⟨c, hc⟩ := Option.ne_none_iff_exists'.1 hne
    obtain ⟨_, x, hx, hk⟩ := h2 a c hc
    obtain ⟨a', ha', hk'⟩ := (hse x hx).1 (all_seen es seen h0 x hx)
    rw [inj a a' (hk.symm.trans hk')]
    exact ha'
  · have hel : e ∈ es.toList ∧ seen.contains e.born = false := by
      unfold leftOf at he
      simp only [Array.toList_filter, List.mem_filter, Bool.not_eq_true'] at he
      exact he
    obtain ⟨a, c, hok, hk, hv, hf⟩ := h1 e hel.1
    have hnew : a ∉ ss := fun ha => by
      have := (hse e hel.1).2 ⟨a, ha, hk⟩
      rw [hel.2] at this; cases this
    have hb1 : w1.heap[b]? = some (.map es clock) := by rcases hal with rfl | rfl <;> exact hb
    have hr1 : w1.heap[r]? = some (.mapIter (some b) since seen c0) := by rcases hal with rfl | rfl <;> exact hr
    have hb2 : (setBlock w1 r (.mapIter (some b) since (seen.push e.born) clock)).heap[b]? = some (.map es clock) := (setBlock_fr w1 r _).blk hb1 (fun e => hrb e.symm)
    have hr2 : (setBlock w1 r (.mapIter (some b) since (seen.push e.born) clock)).heap[r]? = some (.mapIter (some b) since (seen.push e.born) clock) := setBlock_blk _ (lt_of_blk hr1)
    have hrg : MapRange ke ve ok (setBlock w1 r (.mapIter (some b) since (seen.push e.born) clock)) b r f (ss ++ [a]) := by
      refine ⟨es, clock, since, seen.push e.born, clock, hb2, hst, h1, h2, hr2, hold, hsk, hsk, ?_, ?_, ?_⟩
      · exact List.nodup_append.2 ⟨hnd, by simp, fun x hx y hy => by simp at hy; subst hy; exact fun e => hnew (e ▸ hx)⟩
      · intro x hx
        have hcon : (seen.push e.born).contains x.born = true ↔ seen.contains x.born = true ∨ x.born = e.born := by
          simp only [Array.contains_iff_mem, Array.mem_push]
        rw [hcon, hse x hx]
        constructor
        · rintro (⟨a', ha', hk'⟩ | hbo)
          · exact ⟨a', by simp [ha'], hk'⟩
          · obtain rfl := born_inj hstp.2.1 hx hel.1 hbo
            exact ⟨a, by simp, hk⟩
        · rintro ⟨a', ha', hk'⟩
          rcases List.mem_append.1 ha' with ha' | ha'
          · exact .inl ⟨a', ha', hk'⟩
          · simp at ha'; subst ha'
            right
            exact congrArg MapEntry.born (entry_eq_of_key hstp.2.2 hx hel.1 (hk'.trans hk.symm))
      · intro a' ha'
        rcases List.mem_append.1 ha' with ha' | ha'
        · exact hin a' ha'
        · simp at ha'; subst ha'; rw [hf]; simp
    refine .inr ⟨a, c, _, hf, hok, hnew, by rw [← hk, ← hv]; exact hrun, hrg, ?_, ?_, ?_, ?_⟩
    · simp only [World.rangeLeft, hb, hr, hb2, hr2]
      unfold leftOf
      have hsub : (es.filter fun x => !(seen.push e.born).contains x.born) = (es.filter fun x => !seen.contains x.born).filter (fun x => x.born != e.born) := by
        rw [Array.filter_filter]
        congr 1
        funext x
        by_cases hbe : x.born = e.born <;> simp [hbe]
      rw [hsub]
      refine Array.size_filter_lt_size_iff_exists.2 ⟨e, ?_, by simp⟩
      unfold leftOf at he
      exact Array.mem_toList_iff.1 he
    · have hg := grownBy_setBlock w1 r (.mapIter (some b) since (seen.push e.born) clock)
      rcases hal with rfl | rfl
      · exact hg
      · exact ⟨hg.os, hg.tape, hg.output, hg.size, hg.block⟩
    · rcases hal with rfl | rfl <;> simp [setBlock]
    · rw [← hk, ← hv]
      exact run_entry_at _ r b since seen es clock e hr2 hb2 hel.1 hstp.2.1

/-- What is no map and no iterator is turned. -/
theorem MapRange.of_walks {w' : World} (h : MapRange ke ve ok w b r f ss) (hk : KeepsWalks w w') : MapRange ke ve ok w' b r f ss := by
  obtain ⟨es, clock, since, seen, c0, hb, hst, h1, h2, hr, rest⟩ := h
  exact ⟨es, clock, since, seen, c0, hk.same b _ hb rfl, hst, h1, h2, hk.same r _ hr rfl, rest⟩
theorem MapRange.left_walks {w' : World} (h : MapRange ke ve ok w b r f ss) (hk : KeepsWalks w w') : w'.rangeLeft b r = w.rangeLeft b r := by
  obtain ⟨es, clock, since, seen, c0, hb, _, _, _, hr, _⟩ := h
  simp only [World.rangeLeft, hb, hr, hk.same b _ hb rfl, hk.same r _ hr rfl]
theorem MapRange.iter_walk (h : MapRange ke ve ok w b r f ss) : ∃ o : Obj, w.heap[r]? = some o ∧ o.isWalk = true := by
  obtain ⟨es, clock, since, seen, c0, _, _, _, _, hr, _⟩ := h
  exact ⟨_, hr, rfl⟩
end
section
variable {α β : Type} {F : Fence} {n : Nat} {P : Program} {k : TypeId} {ke : α → Value} {ve : β → Value} {ok : α → Prop} (w : World) {b r : Nat} {f : α → Option β} {ss : List α} {ops : Array Oper} {rest : List Oper} {o : Oper} {a : Act} {Q : Exit → Act → World → Prop}

theorem wpListIn_range_is (hg : o.guard = none) (m : Operand) (t e : TypeId) (hop : o.op = Op.range t m) (ht : P.underlying t = some (.map k e)) (hm : a.eval m = .map (some b)) (h : MapIs ke ve ok w b f)
    (hK : ∀ w', MapRange ke ve ok w' b w.heap.size f [] → w.grownBy w' none → w'.heap.size = w.heap.size + 1 → wpListIn F n P ops Q rest (a.put o.dst (.pointer (some ⟨w.heap.size, 0, none⟩))) w') :
    wpListIn F n P ops Q (o :: rest) a w := by
  refine wpListIn_plain hg fun K' hK' => ?_
  obtain ⟨w', hrun, r1, r2, r3⟩ := h.range (P := P) ht
  unfold Oper.wpIn
  refine ⟨by simp [Oper.about, hop], ?_⟩
  rw [Oper.semAt_plain F _ _ (by rw [hop]; intro c hc'; cases hc')]
  simp [execOp, hop, hm, hrun, Result.andThen]
  exact hK' _ _ (hK w' r1 r2 r3)

theorem wpListIn_next_is (hg : o.guard = none) (it : Operand) (hop : o.op = Op.next it false) (inj : ∀ a a', ke a = ke a' → a = a') (hit : a.eval it = .pointer (some ⟨r, 0, none⟩)) (h : MapRange ke ve ok w b r f ss)
    (hDone : (∀ a, a ∈ ss ↔ f a ≠ none) → wpListIn F n P ops Q rest (a.put o.dst (.tuple #[.bool false])) w)
    (hMore : ∀ (x : α) (c : β) (w' : World), f x = some c → ok x → x ∉ ss → MapRange ke ve ok w' b r f (ss ++ [x]) → w'.rangeLeft b r < w.rangeLeft b r → w.grownBy w' (some r) → w'.heap.size = w.heap.size →
      (Instr.entry (.pointer (some ⟨r, 0, none⟩))).run P w' = .ok (.tuple #[ke x, ve c]) w' → wpListIn F n P ops Q rest (a.put o.dst (.tuple #[.bool true, ke x, ve c])) w') :
    wpListIn F n P ops Q (o :: rest) a w := by
  refine wpListIn_plain hg fun K' hK' => ?_
  unfold Oper.wpIn
  refine ⟨by simp [Oper.about, hop], ?_⟩
  rw [Oper.semAt_plain F _ _ (by rw [hop]; intro c hc'; cases hc')]
  rcases h.next (P := P) inj o.type with ⟨hl, hrun⟩ | ⟨x, c, w', hf, hok, hn, hrun, hrg, hlt, hgr, hsz, hen⟩
  · simp [execOp, hop, hit, hrun, Result.andThen]
    exact hK' _ _ (hDone hl)
  · simp [execOp, hop, hit, hrun, Result.andThen]
    exact hK' _ _ (hMore x c w' hf hok hn hrg hlt hgr hsz hen)
end
end Go.Proofs.YtajojhfialbfkaaGreatDoor
/- The library: the numbers of all volumes, collected: maps.Keys, slices.AppendSeq, slices.Collect. -/
namespace Go.Proofs.YtajojhfialbfkaaGreatDoor
open Go.RowKit Go.Shelf Go.Maps
set_option maxRecDepth 100000

attribute [local go_sem] Oper.semAt_some

abbrev ptr0 (x : Nat) : Value := .pointer (some ⟨x, 0, none⟩)

/-- All keys, each once. -/
def AllKeys (f : Nat → Option EN) (ss : List Nat) : Prop := ss.Nodup ∧ ∀ a, a ∈ ss ↔ f a ≠ none

theorem nodup_length_le : ∀ (l L : List Nat), l.Nodup → (∀ a ∈ l, a ∈ L) → l.length ≤ L.length
  | [], _, _, _ => by simp
  | x :: l, L, hnd, hs => by
    have hx : x ∈ L := hs x (by simp)
    have hn := List.nodup_cons.1 hnd
    have := nodup_length_le l (L.erase x) hn.2 (fun a ha => by
      have hne : a ≠ x := fun e => hn.1 (e ▸ ha)
      exact (List.mem_erase_of_ne hne).2 (hs a (by simp [ha])))
    rw [List.length_erase_of_mem hx] at this
    have hp : 0 < L.length := List.length_pos_of_mem hx
    simp only [List.length_cons]
    omega
theorem keys_fewer {f : Nat → Option EN} {L pre : List Nat} {x : Nat} (hL : ∀ a, a ∈ L ↔ f a ≠ none) (hnd : (pre ++ [x]).Nodup) (hin : ∀ a ∈ pre ++ [x], f a ≠ none) : pre.length < L.length := by
  have := nodup_length_le _ L hnd (fun a ha => (hL a).2 (hin a ha))
  simp at this
  omega

set_option maxHeartbeats 1000000 in
theorem keys_in (F : Fence) (n : Nat) (hfn : F.fn 149) (hro : F.round = none) (hn : 1 ≤ n) (l Bm b : Nat) (f : Nat → Option EN) (L : List Nat) (hL : ∀ a, a ∈ L ↔ f a ≠ none) (J Jx : List Nat → World → Prop)
    (hY : ∀ pre x W, J pre W → pre.length < L.length → YieldAt F (n - 1) Tryz.prog l #[uk x] W fun e W' => (e = .returned (.bool true) ∧ J (pre ++ [x]) W' ∧ KeepsWalks W W') ∨ (e = .returned (.bool false) ∧ Jx (pre ++ [x]) W'))
    (W : World) (hJ : AbidesFrom W.heap.size J) (hm : W.cell? ⟨Bm, 0, none⟩ = some (.map (some b))) (hown : MapIs uk ev ukOk W b f) (h0 : J [] W) :
    CallsIn F n Tryz.prog 149 #[.func (.yield l) #[] #[], .pointer (some ⟨Bm, 0, none⟩)] W fun e W' => (∃ v, e = .returned v) ∧ ((∃ ss, AllKeys f ss ∧ J ss W') ∨ (∃ pre, True ∧ Jx pre W')) := by
  refine callsIn_of_wp Tryz.func149 rfl hfn ?_ hro
  simp only [Tryz.ntmps149, List.size_toArray, List.length_cons, List.length_nil, Nat.reduceAdd, Nat.reduceSub, Array.replicate_succ, Array.replicate_zero, List.push_toArray, List.append_toArray, List.nil_append, List.cons_append]
  gi_wp2_with (first
    | (gi_at_range; refine wpListIn_range_is _ rfl _ 77 _ rfl Tryz.underlying77 rfl hown ?_; intro w0 hrg0 hg0 hs0)
    | gi_in)
  go_frame
  gi_loopw [3] (fun _ wr => ∃ ss : List Nat, MapRange uk ev ukOk wr b W.heap.size f ss ∧ J ss wr ∧ ss.Nodup ∧ (∀ a ∈ ss, f a ≠ none)) (fun _ wr => wr.rangeLeft b W.heap.size)
  case atStart => exact ⟨[], hrg0, hJ [] W w0 none h0 hg0 (fun r e => by cases e), List.nodup_nil, fun a ha => by cases ha⟩
  case round =>
    obtain ⟨ss, hrg, hJs, hnd, hin⟩ := hrel
    gi_wp2_with (first
      | (gi_at_next; refine wpListIn_next_is _ rfl _ rfl kkU32.inj rfl hrg ?_ ?_)
      | gi_in)
    · intro hall
      gi_wp2
      go_end0
      exact ⟨⟨_, rfl⟩, .inl ⟨ss, ⟨hnd, hall⟩, hJs⟩⟩
    · intro x c w2 hf hok hnew hrg2 hlt hg2 hs2 hen
      have hnd2 : (ss ++ [x]).Nodup := List.nodup_append.2 ⟨hnd, by simp, fun a ha y hy => by simp at hy; subst hy; exact fun e => hnew (e ▸ ha)⟩
      have hin2 : ∀ a ∈ ss ++ [x], f a ≠ none := by
        intro a ha
        rcases List.mem_append.1 ha with ha | ha
        · exact hin a ha
        · simp at ha; subst ha; rw [hf]; simp
      have hJ2 : J ss w2 := hJ ss wr w2 (some W.heap.size) hJs hg2 (fun r e => by cases e; exact ⟨Nat.le_refl _, hrg.iter_walk⟩)
      obtain ⟨fn, tmps, assign, body, hy, hR⟩ := hY ss x w2 hJ2 (keys_fewer hL hnd2 hin2)
      have HF := Lib.hid (And.intro hnd2 hin2)
      have HLt := Lib.hid hlt
      clear hs2 hf hok hnew hnd2 hin2 hlt hin hnd
      gi_wp2
      refine hR.mono ?_
      rintro e W3 (⟨rfl, hJ3, hk3⟩ | ⟨rfl, hJx3⟩)
      · gi_wp2
        have hrg3 := hrg2.of_walks hk3
        have hl3 := hrg2.left_walks hk3
        have hlt := HLt.out
        go_roundw
        case rel => exact ⟨ss ++ [x], hrg3, hJ3, HF.out.1, HF.out.2⟩
        case measure => rw [hl3]; exact hlt
      · gi_wp2
        refine bodyPost_ret (results_none rfl _ _ _) rfl ?_
        exact ⟨⟨_, rfl⟩, .inr ⟨ss ++ [x], trivial, hJx3⟩⟩

theorem infoU32 : (Tryz.prog.info? 47).map (fun i => (i.zero, i.size, i.bytes)) = some (some (.int .u32 0), 1, 4) := by kernel_rfl

theorem keys_stops (F : Fence) (n : Nat) (hfn : F.fn 149) (hro : F.round = none) (hn : 1 ≤ n) (Bm b : Nat) (f : Nat → Option EN) (L : List Nat) (hL : ∀ a, a ∈ L ↔ f a ≠ none) (w : World)
    (hBm : Bm < w.heap.size) (hm : w.cell? ⟨Bm, 0, none⟩ = some (.map (some b))) (hown : MapIs uk ev ukOk w b f) :
    SeqStopsK F n Tryz.prog 149 #[ptr0 Bm] (fun x : Nat => #[uk x]) KeepsWalks (AllKeys f) (fun _ => True) L.length w := fun l J Jx W hW hJ _ hY h0 => by
  have hown' : MapIs uk ev ukOk W b f := by
    obtain ⟨es, clock, hb, rest⟩ := hown
    exact ⟨es, clock, blk_below hb hW (lt_of_blk hb), rest⟩
  refine (keys_in F n hfn hro hn l Bm b f L hL J Jx hY W hJ ((hW.cell (p := ⟨Bm, 0, none⟩) hBm).trans hm) hown' h0).mono ?_
  rintro e W' h
  exact h

set_option maxHeartbeats 2000000 in
theorem append_keys (n : Nat) (hn : 3 ≤ n) (Bm b : Nat) (f : Nat → Option EN) (L : List Nat) (hL : ∀ a, a ∈ L ↔ f a ≠ none) (hLl : L.length ≤ 1000) (w : World)
    (hBm : Bm < w.heap.size) (hm : w.cell? ⟨Bm, 0, none⟩ = some (.map (some b))) (hown : MapIs uk ev ukOk w b f) :
    CallsIn Fence.wide n Tryz.prog 191 #[.slice none 0 0, .func (.func 149) #[] #[ptr0 Bm]] w fun e W' =>
      ∃ v ss, e = .returned v ∧ AllKeys f ss ∧ W'.ownsRow w.heap.size 47 1 v ss.length (ss.map uk) ∧ (v = .slice none 0 0 ↔ ss = []) ∧ Below w.heap.size w W' := by
  have h1 : 1 ≤ n := by omega
  obtain ⟨i0, hi, hz0, hz1, hz2⟩ := info_parts infoU32
  refine callsIn_of_wp_marks Tryz.func191 rfl trivial ?_ rfl
  simp only [Tryz.ntmps191, List.size_toArray, List.length_cons, List.length_nil, Nat.reduceAdd, Nat.reduceSub, Array.replicate_succ, Array.replicate_zero, List.push_toArray, List.append_toArray, List.nil_append, List.cons_append]
  gi_wp2
  have bO := Boxed.new w 173 (.slice none 0 0)
  have hB0 : Below w.heap.size w (w.alloc (.cells #[.slice none 0 0] 173)) := (Below.refl _ w).alloc (Nat.le_refl _) _
  have hown0 : MapIs uk ev ukOk (w.alloc (.cells #[.slice none 0 0] 173)) b f := hown.fr ((Fr.refl (fun _ => False) w).alloc _) (fun h => h)
  refine wpIn_rangeFunc_ownG (encs := fun x : Nat => #[uk x]) rfl h1 (gf := 149) (lb := #[ptr0 Bm]) rfl trivial (enters_of Tryz.func149 (by kernel_rfl) rfl)
    (keys_stops Fence.wide (n - 1) trivial rfl (by omega) Bm b f L hL (w.alloc (.cells #[.slice none 0 0] 173)) (by simp; omega) ((hB0.cell (p := ⟨Bm, 0, none⟩) hBm).trans hm) hown0) walksK_t walksK_b (Below.refl _ _) (fun _ => rfl)
    (fun pre W => (∃ v, Boxed W w.heap.size 173 v ∧ W.ownsRow w.heap.size 47 1 v pre.length (pre.map uk) ∧ (v = .slice none 0 0 ↔ pre = [])) ∧ Below w.heap.size w W)
    (fun _ _ _ => False)
    (OwnFrom.and (Own.from (holdsRow_own w.heap.size w.heap.size 173 47 1 (fun pre : List Nat => pre.length) (fun pre => pre.map uk) (fun pre v => v = .slice none 0 0 ↔ pre = [])) _) (ownFrom_below (Nat.le_refl _) (by simp)))
    (fun _ _ _ _ _ hs _ _ => hs)
    ⟨⟨_, bO, World.ownsRow_nil _ _ _ _, by simp⟩, hB0⟩
    (fun x => { tmps := #[.slice none 0 0, .func (.func 149) #[] #[ptr0 Bm], .pointer (some ⟨w.heap.size, 0, none⟩), undef, .slice none 0 0, uk x, .func (.func 149) #[] #[ptr0 Bm], uk x, undef, undef, undef, undef, undef], defers := [] }) ?assign ?body ?done ?stop
  case assign =>
    intro l x W K hK
    gi_wp2
    exact hK
  case body =>
    rintro l pre x W ⟨⟨v, hv, hrow, hnil⟩, hB⟩ hlt
    have hc := hv.cell
    gi_wp2_with (gi_at_builtin; refine wpListIn_append_own _ rfl _ _ 173 rfl w.heap.size 47 i0 (.int .u32 0) 1 4 Tryz.underlying173 hi hz0 hz1 hz2 rfl (by decide) _ _ _ rfl (hrow.alloc _) ⟨W.heap.size, 0, none⟩ 1 1 [uk x] rfl rfl (cell_one_new _ _ _) (by simp [Value.oneCell']) (by unfold maxLen; omega) (by omega) (by have := hB.size; simp; omega) ?_; intro v' w1 hown' hgrow _; obtain ⟨g', cap', rfl⟩ := ownsRow_succ hown'; obtain ⟨hv1, hv2, hr2, hk2, hb2⟩ := hv.appended (by decide) hrow hB.size (Nat.le_refl _) hown' hgrow; have hc1 := hv1.cell; have hf1 := hv1.frozen)
    exact ⟨hk2.from _, hk2.walks, ⟨_, hv2, by simpa using hr2, by simp⟩, hB.trans hb2⟩
  case done =>
    rintro D ys W hD hys ⟨⟨v, hv, hrow, hnil⟩, hB⟩ hK
    have hc := hv.cell
    gi_wp2
    refine ⟨by simp, .inl ⟨_, _, rfl, run_takeDeferred hK, ?_⟩⟩
    exact ⟨_, results_tmp rfl _ _ _, v, ys, rfl, hys, ownsRow_putObj hrow _ hK rfl, hnil, hB.trans (belowK_b (w := w) (Nat.le_refl _) W D _ _ (by simp at hD; omega) hK rfl rfl)⟩
  case stop =>
    rintro D c pre W _ _ h _
    exact h.elim

theorem maps_keys (b : Nat) (w : World) :
    Calls Tryz.prog 98 #[.map (some b)] w fun e w' =>
      e = .returned (.func (.func 149) #[] #[ptr0 w.heap.size]) ∧ w.alloc (.cells #[.map (some b)] 77) = w' := by
  go_enter Tryz.func98, Tryz.ntmps98
  go_wp2_with fail
  go_ret
  exact ⟨rfl, rfl⟩

/-- What slices.Collect gives. -/
def Collected (f : Nat → Option EN) (w : World) (e : Ending) (W' : World) : Prop :=
  ∃ v ss, e = .returned v ∧ AllKeys f ss ∧ W'.ownsRow w.heap.size 47 1 v ss.length (ss.map uk) ∧ (v = .slice none 0 0 ↔ ss = []) ∧ Below w.heap.size w W'

theorem collect_keys (Bm b : Nat) (f : Nat → Option EN) (L : List Nat) (hL : ∀ a, a ∈ L ↔ f a ≠ none) (hLl : L.length ≤ 1000) (w : World)
    (hBm : w.heap[Bm]? = some (.cells #[.map (some b)] 77 (0, 0))) (hown : MapIs uk ev ukOk w b f) :
    Calls Tryz.prog 147 #[.func (.func 149) #[] #[ptr0 Bm]] w (Collected f w) := by
  have ha := callsIn_wide.1 (append_keys 3 (Nat.le_refl _) Bm b f L hL hLl w (lt_of_blk hBm) (cell_blk hBm 0) hown)
  have HA := Lib.hid ha
  clear ha hL hLl hBm hown
  go_enter Tryz.func147, Tryz.ntmps147
  go_wp2_with fail
  refine HA.out.mono ?_
  rintro e w' ⟨v, ss, rfl, h1, h2, h3, h4⟩
  have HE := Lib.hid (show Collected f w (.returned v) w' from ⟨v, ss, rfl, h1, h2, h3, h4⟩)
  clear h1 h2 h3 h4
  go_wp2_with fail
  go_ret
  exact HE.out
end Go.Proofs.YtajojhfialbfkaaGreatDoor
/- The library: slices.Sort and slices.Sorted at uint32, of one number at most. -/
namespace Go.Proofs.YtajojhfialbfkaaGreatDoor
open Go.RowKit
set_option maxRecDepth 100000

theorem ins_sort1 (ao : Option Addr) (n cap : Nat) (hn : n ≤ 1) (w : World) :
    Calls Tryz.prog 226 #[.slice ao n cap, .int .i64 0, .int .i64 (n : Int)] w fun e w' => e = unit0 ∧ w = w' := by
  have h1 : ¬ (1 : Int) < (n : Int) := by omega
  have hn' : (n : Int) ≤ 1 := by omega
  clear hn
  go_enter Tryz.func226, Tryz.ntmps226
  go_wp2_with fail
  refine wp_loop_rounds 1 ?_
  rw [rounds_succ]
  go_wp2_with fail
  go_end0
  exact ⟨rfl, rfl⟩

theorem pdq_sort1 (ao : Option Addr) (n cap : Nat) (hn : n ≤ 1) (lim : Int) (w : World) :
    Calls Tryz.prog 192 #[.slice ao n cap, .int .i64 0, .int .i64 (n : Int), .int .i64 lim] w fun e w' => e = unit0 ∧ w = w' := by
  have HI := Lib.hid (ins_sort1 ao n cap hn w)
  have hn' : (n : Int) ≤ 12 := by omega
  clear hn
  go_enter Tryz.func192, Tryz.ntmps192
  go_wp2_with fail
  refine wp_loop_rounds 1 ?_
  rw [rounds_succ]
  go_wp2_with fail
  refine HI.out.mono ?_
  rintro e w' ⟨rfl, rfl⟩
  go_wp2_with fail
  refine bodyPost_ret (results_none rfl _ _ _) rfl ?_
  exact ⟨rfl, rfl⟩

theorem sort_u32_one (ao : Option Addr) (n cap : Nat) (hn : n ≤ 1) (w : World) :
    Calls Tryz.prog 148 #[.slice ao n cap] w fun e w' => e = unit0 ∧ w = w' := by
  have HI := fun lim => Lib.hid (pdq_sort1 ao n cap hn lim w)
  have hb := Tryz.bits_Len (n : Int) w (by omega) (by omega)
  have HB := Lib.hid hb
  have hu : IntKind.u64.wrap (n : Int) = (n : Int) := u64_in n (by omega)
  clear hn hb
  go_enter Tryz.func148, Tryz.ntmps148
  go_wp2_with fail
  refine HB.out.mono ?_
  rintro e w' ⟨rfl, rfl⟩
  go_wp2_with fail
  refine (HI _).out.mono ?_
  rintro e w' ⟨rfl, rfl⟩
  go_wp2_with fail
  go_end0
  exact ⟨rfl, rfl⟩

theorem pw_one : ∀ {l : List Nat}, l.length ≤ 1 → l.Pairwise (· < ·)
  | [], _ => List.Pairwise.nil
  | [_a], _ => List.pairwise_singleton _ _

/-- What slices.Sorted gives. -/
def SortedEnd (f : Nat → Option EN) (w : World) (e : Ending) (W' : World) : Prop :=
  ∃ v ss, e = .returned v ∧ AllKeys f ss ∧ ss.Pairwise (· < ·) ∧ W'.ownsRow w.heap.size 47 1 v ss.length (ss.map uk) ∧ Below w.heap.size w W'

theorem sorted_one (Bm b : Nat) (f : Nat → Option EN) (L : List Nat) (hL : ∀ a, a ∈ L ↔ f a ≠ none) (hLl : L.length ≤ 1) (w : World)
    (hBm : w.heap[Bm]? = some (.cells #[.map (some b)] 77 (0, 0))) (hown : MapIs uk ev ukOk w b f) :
    Calls Tryz.prog 97 #[.func (.func 149) #[] #[ptr0 Bm]] w (SortedEnd f w) := by
  have HC := Lib.hid (collect_keys Bm b f L hL (by omega) w hBm hown)
  have HL := Lib.hid hL
  have HLl := Lib.hid hLl
  clear hL hLl hBm hown
  go_enter Tryz.func97, Tryz.ntmps97
  go_wp2_with fail
  refine HC.out.mono ?_
  rintro e w' ⟨v, ss, rfl, h1, h2, h3, h4⟩
  have hn : ss.length ≤ 1 := Nat.le_trans (nodup_length_le ss L h1.1 (fun a ha => (HL.out a).2 ((h1.2 a).1 ha))) HLl.out
  obtain ⟨ao, cap, rfl, _, _⟩ := ownsRow_form h2
  have HS := Lib.hid (sort_u32_one ao ss.length cap hn w')
  have HE := Lib.hid (show SortedEnd f w (.returned (.slice ao ss.length cap)) w' from ⟨_, ss, rfl, h1, pw_one hn, h2, h4⟩)
  clear h1 h2 h3 h4 hn
  go_wp2_with fail
  refine HS.out.mono ?_
  rintro e w2 ⟨rfl, rfl⟩
  go_wp2_with fail
  go_ret
  exact HE.out
end Go.Proofs.YtajojhfialbfkaaGreatDoor
