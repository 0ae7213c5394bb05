/- Layer 16: what a world holds of a core: its heap, its volumes, the index of extents; ways back. -/
import Derived.Test.YtajojhfialbfkaaGreatDoorMRowStoreF09
namespace Go.Proofs.YtajojhfialbfkaaGreatDoor
open Go.RowKit
set_option maxRecDepth 100000

/-- A sum of sha. -/
def shaV (l : List UInt8) : Value := .agg (bcells l).toArray
def shaOk (l : List UInt8) : Prop := l.length = 32

/-- A core: its addresses' bits, the next volume's number, the epoch, the volumes, the index of extents. -/
structure KS where
  bits : Nat
  next : Nat
  epoch : Nat
  vols : Nat → Option EN
  index : List UInt8 → Option Nat

abbrev ptr (x : Nat) : Value := .pointer (some ⟨x, 0, none⟩)

/-- A way back, of a core. -/
inductive CStep where
  | low (s : Step)
  | next (x y was : Nat)
  | vol (drop : Bool) (x1 x2 x3 x4 key : Nat) (was : Option EN)
  | idx (drop : Bool) (x1 x2 x3 x4 : Nat) (key : List UInt8) (was : Option Nat)

def CStep.step (C : CB) : CStep → Step
  | .low s => s
  | .next x y was => .ext 207 #[ptr x, ptr y] [(x, #[.int .u32 (was : Int)], .u32), (y, #[.pointer (some ⟨C.c, 3, none⟩)], .pu32)]
  | .vol true x1 x2 x3 x4 key was => .ext 176 #[ptr x1, ptr x2, ptr x3, ptr x4] [(x1, #[.map (some C.l)], .mvol), (x2, (uk key).cells, .u32), (x3, (ev (was.getD zEN)).cells, .ent), (x4, #[.bool was.isSome], .bool)]
  | .vol false x1 x2 x3 x4 key was => .ext 168 #[ptr x1, ptr x2, ptr x3, ptr x4] [(x1, #[.map (some C.l)], .mvol), (x2, (uk key).cells, .u32), (x3, (ev (was.getD zEN)).cells, .ent), (x4, #[.bool was.isSome], .bool)]
  | .idx true x1 x2 x3 x4 key was => .ext 282 #[ptr x1, ptr x2, ptr x3, ptr x4] [(x1, #[.map (some C.ix)], .msum), (x2, (shaV key).cells, .sum), (x3, #[(was.map ik).getD (.int .i64 0)], .int), (x4, #[.bool was.isSome], .bool)]
  | .idx false x1 x2 x3 x4 key was => .ext 259 #[ptr x1, ptr x2, ptr x3, ptr x4] [(x1, #[.map (some C.ix)], .msum), (x2, (shaV key).cells, .sum), (x3, #[(was.map ik).getD (.int .i64 0)], .int), (x4, #[.bool was.isSome], .bool)]

/-- The world w holds the core. -/
structure CW (w : World) (B : HB) (C : CB) (S : HS) (K : KS) (yg : Nat) (gv lv : Value) (depth : Nat) (cs : List CStep) : Prop where
  hw : HW w B S yg gv lv depth (cs.map (CStep.step C))
  co : CoreIs w C B.h K.bits K.next K.epoch K.vols
  ix : MapIs shaV ik shaOk w C.ix K.index
  apart : C.l ≠ C.ix ∧ C.l ≠ B.rf ∧ C.l ≠ yg ∧ C.ix ≠ B.rf ∧ C.ix ≠ yg

/-- Types of blocks that are none of a core's. -/
def cwTy : List Nat := [79, 205, 208] ++ hpTy
def Out (w : World) (k : Nat) : Prop := ∃ cs t, w.heap[k]? = some (.cells cs t (0, 0)) ∧ cwTy.contains t = false

theorem cwTy_hp {t : Nat} (h : cwTy.contains t = false) : hpTy.contains t = false := by
  unfold cwTy at h
  simp only [List.contains_eq_mem, decide_eq_false_iff_not, List.mem_append, not_or] at h ⊢
  exact h.2
theorem cwTy_ne {a t : Nat} (ht : cwTy.contains t = false) (ha : cwTy.contains a = true) : a ≠ t := by
  rintro rfl
  rw [ht] at ha; cases ha

theorem MapIs.raw {α β : Type} {ke : α → Value} {ve : β → Value} {ok : α → Prop} {w : World} {b : Nat} {f : α → Option β} (h : MapIs ke ve ok w b f) : ∃ es c, w.heap[b]? = some (.map es c) := by
  obtain ⟨es, c, hb, _⟩ := h
  exact ⟨es, c, hb⟩

section
variable {w w' : World} {B : HB} {C : CB} {S : HS} {K : KS} {yg : Nat} {gv lv : Value} {depth : Nat} {cs : List CStep}

theorem CW.alien (h : CW w B C S K yg gv lv depth cs) : ∀ k ∈ [C.c, C.r, C.x, C.l, C.ix], Alien w B yg k := by
  intro k hk
  obtain ⟨a1, a2, a3, a4, a5⟩ := h.apart
  simp only [List.mem_cons, List.not_mem_nil, or_false] at hk
  rcases hk with rfl | rfl | rfl | rfl | rfl
  · exact .inl ⟨_, _, h.co.hc, by decide⟩
  · exact .inl ⟨_, _, h.co.hr, by decide⟩
  · exact .inl ⟨_, _, h.co.hx, by decide⟩
  · obtain ⟨es, c, hb⟩ := h.co.vols.raw
    exact .inr ⟨es, c, hb, a2, a3⟩
  · obtain ⟨es, c, hb⟩ := h.ix.raw
    exact .inr ⟨es, c, hb, a4, a5⟩

theorem CW.not_HF (h : CW w B C S K yg gv lv depth cs) {k : Nat} (hk : k ∈ [C.c, C.r, C.x, C.l, C.ix]) : ¬ HF B yg lv k := h.hw.not_alien (h.alien k hk)

theorem map_ne_cells {a b : Nat} {o : Array Value} {t : TypeId} {fr : Nat × Nat} (ha : ∃ es c, w.heap[a]? = some (.map es c)) (hb : w.heap[b]? = some (.cells o t fr)) : a ≠ b := by
  rintro rfl
  obtain ⟨es, c, ha⟩ := ha
  rw [ha] at hb; injection hb with hb; cases hb

theorem CW.distinct (h : CW w B C S K yg gv lv depth cs) : [C.c, C.r, C.x, C.l, C.ix].Nodup := by
  have e1 := ne_blk h.co.hc h.co.hr (by decide)
  have e2 := ne_blk h.co.hc h.co.hx (by decide)
  have e3 := ne_blk h.co.hr h.co.hx (by decide)
  have l1 := map_ne_cells h.co.vols.raw h.co.hc
  have l2 := map_ne_cells h.co.vols.raw h.co.hr
  have l3 := map_ne_cells h.co.vols.raw h.co.hx
  have i1 := map_ne_cells h.ix.raw h.co.hc
  have i2 := map_ne_cells h.ix.raw h.co.hr
  have i3 := map_ne_cells h.ix.raw h.co.hx
  have a1 := h.apart.1
  simp only [List.nodup_cons, List.mem_cons, List.not_mem_nil, or_false, not_or, List.nodup_nil, not_false_eq_true, and_true]
  exact ⟨⟨e1, e2, l1.symm, i1.symm⟩, ⟨e3, l2.symm, i2.symm⟩, ⟨l3.symm, i3.symm⟩, a1⟩

/-- Blocks of the heap are turned: the core's own stay. -/
theorem CW.of_heap {S' : HS} {gv' lv' : Value} {depth' : Nat} {cs' : List CStep} (h : CW w B C S K yg gv lv depth cs) (hF : Fr (HF B yg lv) w w') (h' : HW w' B S' yg gv' lv' depth' (cs'.map (CStep.step C))) : CW w' B C S' K yg gv' lv' depth' cs' := by
  have hn := fun k hk => h.not_HF (k := k) hk
  exact ⟨h', ⟨hF.blk h.co.hc (hn _ (by simp)), hF.blk h.co.hr (hn _ (by simp)), hF.blk h.co.hx (hn _ (by simp)), h.co.vols.fr hF (hn _ (by simp))⟩, h.ix.fr hF (hn _ (by simp)), h.apart⟩

/-- Blocks that are none of the core's are turned. -/
theorem CW.fr_out {F : Nat → Prop} (h : CW w B C S K yg gv lv depth cs) (hF : Fr F w w') (ho : ∀ k, k < w.heap.size → F k → Out w k) : CW w' B C S K yg gv lv depth cs := by
  have hw' := h.hw.fr_alien hF (fun k hk f => by obtain ⟨c, t, hb, ht⟩ := ho k hk f; exact .inl ⟨c, t, hb, cwTy_hp ht⟩)
  have hc : ∀ {k : Nat} {o : Array Value} {t : TypeId} {fr : Nat × Nat}, w.heap[k]? = some (.cells o t fr) → cwTy.contains t = true → ¬ F k := by
    intro k o t fr hb ht f
    obtain ⟨c, t', hb', ht'⟩ := ho k (lt_of_blk hb) f
    rw [hb'] at hb; injection hb with hb; injection hb with _ hb
    exact cwTy_ne ht' ht hb.symm
  have hm : ∀ {k : Nat}, (∃ es c, w.heap[k]? = some (.map es c)) → ¬ F k := by
    rintro k ⟨es, c, hb⟩ f
    obtain ⟨c, t', hb', ht'⟩ := ho k (lt_of_blk hb) f
    rw [hb'] at hb; injection hb with hb; cases hb
  exact ⟨hw', ⟨hF.blk h.co.hc (hc h.co.hc (by decide)), hF.blk h.co.hr (hc h.co.hr (by decide)), hF.blk h.co.hx (hc h.co.hx (by decide)), h.co.vols.fr hF (hm h.co.vols.raw)⟩, h.ix.fr hF (hm h.ix.raw), h.apart⟩

theorem CW.fr_new (h : CW w B C S K yg gv lv depth cs) (hF : Fr (fun _ => False) w w') : CW w' B C S K yg gv lv depth cs :=
  h.fr_out hF (fun _ _ f => f.elim)

/-- A cell of the core's is another: the log is longer. -/
theorem CW.of_next {lv' : Value} {x y n : Nat} (h : CW w B C S K yg gv lv depth cs)
    (hL : LogAt w' B.g lv' depth ((cs.map (CStep.step C)).map Step.val ++ [cl 207 #[ptr x, ptr y]])) (hlv : ∀ k, lv'.ownBlock = some k → lv.ownBlock = some k ∨ w.heap.size ≤ k)
    (hx : w.heap.size ≤ x) (hy : w.heap.size ≤ y) (hnx : ¬ LogF B.g lv' x) (hny : ¬ LogF B.g lv' y) (hbx : w'.heap[x]? = some (.cells #[.int .u32 (K.next : Int)] 47 (0, 0))) (hby : w'.heap[y]? = some (.cells #[.pointer (some ⟨C.c, 3, none⟩)] 232 (0, 0)))
    (hb : w'.heap[C.c]? = some (.cells #[.pointer (some ⟨B.h, 0, none⟩), .pointer (some ⟨C.r, 0, none⟩), .map (some C.l), .int .u32 (n : Int), .int .u32 (K.epoch : Int)] 79 (0, 0)))
    (hF : Fr (fun k => LogF B.g lv k ∨ k = C.c) w w') : CW w' B C S { K with next := n } yg gv lv' depth (cs ++ [.next x y K.next]) := by
  have hd := h.distinct
  have hne : ∀ k ∈ [C.r, C.x, C.l, C.ix], ¬ (LogF B.g lv k ∨ k = C.c) := by
    rintro k hk (f | rfl)
    · exact h.not_HF (k := k) (List.mem_cons_of_mem _ hk) (h.hw.logF f)
    · exact (List.nodup_cons.1 hd).1 hk
  refine ⟨?_, ⟨hb, hF.blk h.co.hr (hne _ (by simp)), hF.blk h.co.hx (hne _ (by simp)), h.co.vols.fr hF (hne _ (by simp))⟩, h.ix.fr hF (hne _ (by simp)), h.apart⟩
  rw [List.map_append, List.map_singleton]
  refine h.hw.of_ext (h.alien C.c (by simp)) hF hL hlv _ ?_
  intro q hq
  simp only [List.mem_cons, List.not_mem_nil, or_false] at hq
  rcases hq with rfl | rfl
  · exact ⟨hbx, hx, hnx⟩
  · exact ⟨hby, hy, hny⟩

/-- A volume is another. -/
theorem CW.of_vol {lv' : Value} {x1 x2 x3 x4 key : Nat} {drop : Bool} {f' : Nat → Option EN} (h : CW w B C S K yg gv lv depth cs)
    (hL : LogAt w' B.g lv' depth ((cs.map (CStep.step C)).map Step.val ++ [cl (if drop then 176 else 168) #[ptr x1, ptr x2, ptr x3, ptr x4]])) (hlv : ∀ k, lv'.ownBlock = some k → lv.ownBlock = some k ∨ w.heap.size ≤ k)
    (hx1 : w.heap.size ≤ x1) (hx2 : w.heap.size ≤ x2) (hx3 : w.heap.size ≤ x3) (hx4 : w.heap.size ≤ x4) (hn1 : ¬ LogF B.g lv' x1) (hn2 : ¬ LogF B.g lv' x2) (hn3 : ¬ LogF B.g lv' x3) (hn4 : ¬ LogF B.g lv' x4)
    (hb1 : w'.heap[x1]? = some (.cells #[.map (some C.l)] 77 (0, 0))) (hb2 : w'.heap[x2]? = some (.cells (uk key).cells 47 (0, 0)))
    (hb3 : w'.heap[x3]? = some (.cells (ev ((K.vols key).getD zEN)).cells 50 (0, 0))) (hb4 : w'.heap[x4]? = some (.cells #[.bool (K.vols key).isSome] 4 (0, 0)))
    (hm : MapIs uk ev ukOk w' C.l f') (hF : Fr (fun k => LogF B.g lv k ∨ k = C.l) w w') : CW w' B C S { K with vols := f' } yg gv lv' depth (cs ++ [.vol drop x1 x2 x3 x4 key (K.vols key)]) := by
  have hd := h.distinct
  have hne : ∀ k ∈ [C.c, C.r, C.x, C.ix], ¬ (LogF B.g lv k ∨ k = C.l) := by
    rintro k hk (f | rfl)
    · refine h.not_HF (k := k) ?_ (h.hw.logF f)
      simp only [List.mem_cons, List.not_mem_nil, or_false] at hk ⊢
      rcases hk with h | h | h | h <;> simp [h]
    · simp only [List.nodup_cons, List.mem_cons, List.not_mem_nil, or_false, not_or, List.nodup_nil, not_false_eq_true, and_true] at hd hk
      omega
  refine ⟨?_, ⟨hF.blk h.co.hc (hne _ (by simp)), hF.blk h.co.hr (hne _ (by simp)), hF.blk h.co.hx (hne _ (by simp)), hm⟩, h.ix.fr hF (hne _ (by simp)), h.apart⟩
  rw [List.map_append, List.map_singleton]
  have hq : ∀ q ∈ ([(x1, #[.map (some C.l)], .mvol), (x2, (uk key).cells, .u32), (x3, (ev ((K.vols key).getD zEN)).cells, .ent), (x4, #[.bool (K.vols key).isSome], .bool)] : List (Nat × Array Value × ExtTy)),
      w'.heap[q.1]? = some (.cells q.2.1 q.2.2.ty (0, 0)) ∧ w.heap.size ≤ q.1 ∧ ¬ LogF B.g lv' q.1 := by
    intro q hq
    simp only [List.mem_cons, List.not_mem_nil, or_false] at hq
    rcases hq with rfl | rfl | rfl | rfl
    · exact ⟨hb1, hx1, hn1⟩
    · exact ⟨hb2, hx2, hn2⟩
    · exact ⟨hb3, hx3, hn3⟩
    · exact ⟨hb4, hx4, hn4⟩
  cases drop
  · exact h.hw.of_ext (h.alien C.l (by simp)) hF hL hlv _ hq
  · exact h.hw.of_ext (h.alien C.l (by simp)) hF hL hlv _ hq
end
end Go.Proofs.YtajojhfialbfkaaGreatDoor
/- Law 18: Open, where there are no volumes. -/
namespace Go.Proofs.YtajojhfialbfkaaGreatDoor
open Go.RowKit
set_option maxRecDepth 100000

/-- A store without volumes lies in the world. -/
structure OpenedAt (d : Nat) (D : DS) (s : SU) (t : Nat) (B : HB) (yg : Nat) (C : CB) (w' : World) : Prop where
  ht : w'.heap[t]? = some (storeObj C.c d s)
  hd : B.d = d
  hw : HW w' B (HS.fresh D (2 + s.journal).toNat) yg (.slice none 0 0) (.slice none 0 0) 0 []
  hc : CoreIs w' C B.h s.bits.toNat s.next s.epoch (fun _ => none)
  hix : w'.heap[C.ix]? = some (.map #[] 0)
  ord : (∀ k, HF B yg (.slice none 0 0) k → k < C.ix) ∧ C.ix < C.x ∧ C.x < C.r ∧ C.r < C.l ∧ C.l < C.c ∧ C.c < t

theorem OpenedAt.fr {d : Nat} {D : DS} {s : SU} {t : Nat} {B : HB} {yg : Nat} {C : CB} {w w' : World} {x : Nat} {cs : Array Value} {ty : TypeId} (h : OpenedAt d D s t B yg C w)
    (hty : hpTy.contains ty = false)
    (h1 : ty ≠ 71) (h2 : ty ≠ 79) (h3 : ty ≠ 205) (h4 : ty ≠ 208)
    (hx : w.heap[x]? = some (.cells cs ty (0, 0))) (hF : Fr (fun k => k = x) w w') : OpenedAt d D s t B yg C w' := by
  have hl : C.l ≠ x := by
    rintro rfl
    obtain ⟨es, c, hb, _⟩ := h.hc.vols
    rw [hb] at hx; injection hx with hx; cases hx
  have hi : C.ix ≠ x := by
    rintro rfl
    have := h.hix
    rw [hx] at this; injection this with hx; cases hx
  exact ⟨hF.blk h.ht (ne_blk h.ht hx h1.symm), h.hd, (h.hw.fr_ty hty hx hF).1,
    ⟨hF.blk h.hc.hc (ne_blk h.hc.hc hx h2.symm), hF.blk h.hc.hr (ne_blk h.hc.hr hx h3.symm), hF.blk h.hc.hx (ne_blk h.hc.hx hx h4.symm), h.hc.vols.fr hF hl⟩, hF.blk h.hix hi, h.ord⟩

/-- Its blocks are the disk's, and new ones. -/
def OpenLow (w : World) (d : Nat) (sv : Value) (B : HB) (yg : Nat) (C : CB) : Prop := (∀ k, HF B yg (.slice none 0 0) k → k = d ∨ sv.ownBlock = some k ∨ w.heap.size ≤ k) ∧ w.heap.size ≤ C.ix

theorem OpenLow.mono {w w' : World} {d : Nat} {sv : Value} {B : HB} {yg : Nat} {C : CB} (h : OpenLow w' d sv B yg C) (hz : w.heap.size ≤ w'.heap.size) : OpenLow w d sv B yg C :=
  ⟨fun k hk => (h.1 k hk).imp_right (fun f => f.imp_right (fun f => Nat.le_trans hz f)), Nat.le_trans hz h.2⟩

theorem Opened.at {w : World} {d : Nat} {sv : Value} {D : DS} {s : SU} {e : Ending} {w' : World} (h : Opened w d sv D s e w') :
    ∃ t B yg C, e = .returned (.pointer (some ⟨t, 0, none⟩)) ∧ OpenedAt d D s t B yg C w' ∧ OpenLow w d sv B yg C := by
  obtain ⟨t, B, yg, C, he, h1, h2, h3, h4, h5, h6, h7, h8, h9, h10, h11, h12, h13, h14⟩ := h.all
  exact ⟨t, B, yg, C, he, ⟨h1, h2, h3, h4, h5, h6, h7, h8, h9, h10, h11⟩, h13, h14⟩

theorem enters_l18o (a b : Value) : Enters 51 (#[] ++ #[a, b]) := fun w => by simp [go_sem]

/-- The run within Open's Guard. -/
theorem l18_open_in {w : World} {d : Nat} {sv : Value} {D : DS} (a1 a2 : Nat) (s : SU) (ha1 : w.heap[a1]? = some (.cells #[.pointer (some ⟨d, 0, none⟩)] 55 (0, 0))) (ha2 : w.heap[a2]? = some (.cells #[.pointer none] 63 (0, 0)))
    (h : Calls Tryz.prog 52 #[.pointer (some ⟨d, 0, none⟩)] w (Opened w d sv D s)) :
    Calls Tryz.prog 51 #[.pointer (some ⟨a1, 0, none⟩), .pointer (some ⟨a2, 0, none⟩)] w fun e w' => e = unit0 ∧
      (∃ t B yg C, OpenedAt d D s t B yg C w' ∧ OpenLow w d sv B yg C ∧ w'.heap[a2]? = some (.cells #[.pointer (some ⟨t, 0, none⟩)] 63 (0, 0))) ∧ Fr (fun k => k = a2) w w' := by
  have h1 := cell_blk ha1
  have H := Lib.hid h
  have H2 := Lib.hid ha2
  clear h ha1 ha2
  go_enter Tryz.func51, Tryz.ntmps51
  go_wp2_with fail
  refine H.out.mono ?_
  rintro e w1 ho
  obtain ⟨t, B, yg, C, rfl, hat, hsv⟩ := ho.at
  have hb2 := blk_below H2.out ho.bel (lt_of_blk H2.out)
  have hc2 := cell_blk hb2
  have hf2 := frozen_blk hb2
  have HF := Lib.hid ((Fr.of_below (F := fun k => k = a2) ho.bel).setCell (p := ⟨a2, 0, none⟩) (fun _ => rfl) (.pointer (some ⟨t, 0, none⟩)))
  have HA := Lib.hid (hat.fr (w' := w1.setCell ⟨a2, 0, none⟩ (.pointer (some ⟨t, 0, none⟩))) (by decide) (by decide) (by decide) (by decide) (by decide) hb2 ((Fr.refl (fun k => k = a2) w1).setCell (p := ⟨a2, 0, none⟩) (fun _ => rfl) _))
  have HB := Lib.hid (blk_set (i := 0) (v := .pointer (some ⟨t, 0, none⟩)) hb2)
  have HS := Lib.hid hsv
  clear hat hb2 ho hsv
  go_wp2_with fail
  go_end0
  exact ⟨rfl, ⟨t, B, yg, C, HA.out, HS.out, HB.out⟩, HF.out⟩

theorem l18_open0 {w : World} {d : Nat} {sv : Value} {D : DS} (h : DiskAt w d sv D) (hc : D.calm) (hwh : D.whole) (hn : D.l.length ≤ 4096) (s : SU) (hs : readTo D (min 2 D.l.length) = s) (hck : suCheck s D.l.length = 0) (h0 : s.head = 0) (hnx : s.next < 4294967296) :
    Calls Tryz.prog 16 #[.pointer (some ⟨d, 0, none⟩)] w fun e w' =>
      ∃ t B yg C, e = .returned (.tuple #[.pointer (some ⟨t, 0, none⟩), .int .i64 0]) ∧ OpenedAt d D s t B yg C w' ∧ OpenLow w d sv B yg C ∧ Below w.heap.size w w' := by
  have hop := fun (W : World) (hF : Fr (fun _ => False) w W) => store_open0 (h.fr hF (fun _ _ h => h)) hc hwh hn s hs hck h0 hnx
  have HOp := Lib.hid hop
  clear h hc hwh hn hs hck h0 hnx hop
  go_enter Tryz.func16, Tryz.ntmps16
  go_wp2_with fail
  have F3 : Fr (fun _ => False) w (((w.alloc (Obj.cells #[.pointer (some ⟨d, 0, none⟩)] 55)).alloc (Obj.cells #[.pointer none] 63)).alloc (Obj.cells #[.int .i64 0] 29)) := (((Fr.refl _ w).alloc _).alloc _).alloc _
  have b1 := blk_alloc (o' := Obj.cells #[.int .i64 0] 29) (blk_alloc (o' := Obj.cells #[.pointer none] 63) (blk_new (w := w) (o := Obj.cells #[.pointer (some ⟨d, 0, none⟩)] 55) rfl))
  have b2 := blk_alloc (o' := Obj.cells #[.int .i64 0] 29) (blk_new (o := Obj.cells #[.pointer none] 63) (size_alloc (w := w) (o := Obj.cells #[.pointer (some ⟨d, 0, none⟩)] 55) rfl))
  have hz := size_alloc (o := Obj.cells #[.pointer none] 63) (size_alloc (w := w) (o := Obj.cells #[.pointer (some ⟨d, 0, none⟩)] 55) rfl)
  have b3 := blk_new (o := Obj.cells #[.int .i64 0] 29) hz
  refine (guard_any 51 #[] #[.pointer (some ⟨w.heap.size, 0, none⟩), .pointer (some ⟨w.heap.size + 1, 0, none⟩)] (enters_l18o _ _) _
    (fun o w2 => o = none ∧ w2.heap[w.heap.size + 1 + 1]? = some (.cells #[.int .i64 0] 29 (0, 0)) ∧ (∃ t B yg C, OpenedAt d D s t B yg C w2 ∧ OpenLow w d sv B yg C ∧ w2.heap[w.heap.size + 1]? = some (.cells #[.pointer (some ⟨t, 0, none⟩)] 63 (0, 0))) ∧ Below w.heap.size w w2) ?_).mono ?_
  · refine (l18_open_in w.heap.size (w.heap.size + 1) s b1 b2 (HOp.out _ F3)).mono ?_
    rintro e w2 ⟨rfl, h1, hF⟩
    have hb3 := hF.blk b3 (by omega)
    have hB := (F3.below (B := w.heap.size) (fun _ _ h => h.elim) (Nat.le_refl _)).trans (hF.below (B := w.heap.size) (fun x _ e => by omega) (by have := F3.size; omega))
    rw [hz]
    obtain ⟨t, B, yg, C, q1, q2, q3⟩ := h1
    exact ⟨hb3, .inl ⟨rfl, rfl, hb3, ⟨t, B, yg, C, q1, q2.mono F3.size, q3⟩, hB⟩⟩
  · rintro e w3 ⟨o, w2, rfl, ⟨rfl, hx, ⟨t, B, yg, C, hat, hsv, ha2⟩, hB⟩, hF⟩
    rw [hz] at hF
    have HA := Lib.hid (hat.fr (by decide) (by decide) (by decide) (by decide) (by decide) hx hF)
    have hb2 := hF.blk ha2 (by omega)
    have hc2 := cell_blk hb2
    have HB := Lib.hid (hB.trans (hF.below (B := w.heap.size) (fun x _ e => by omega) hB.size))
    have HS := Lib.hid hsv
    clear F3 b1 b2 b3 hz hat ha2 hB hF hx hsv hb2
    simp only [Option.getD_none]
    go_wp2_with fail
    go_ret2
    exact ⟨t, B, yg, C, rfl, HA.out, HS.out, HB.out⟩
end Go.Proofs.YtajojhfialbfkaaGreatDoor
/- Plain laws: a frame read again; a super read again. -/
namespace Go.Proofs.YtajojhfialbfkaaGreatDoor
open Go.RowKit
set_option maxRecDepth 100000

theorem frame_take (e q : Nat) (t : List UInt8) : (frameB e q t).take 4 = numB e 4 := by
  unfold frameB filled stampB
  simp [numB_length]
theorem frame_take2 (e q : Nat) (t : List UInt8) : ((frameB e q t).drop 4).take 4 = numB q 4 := by
  unfold frameB filled stampB
  simp [numB_length]

theorem trimLeftB_zeros : ∀ n, Lib.trimLeftB (zeros n) 0 = []
  | 0 => rfl
  | n + 1 => by
    have := trimLeftB_zeros n
    simp only [Lib.trimLeftB, zeros, List.replicate_succ] at this ⊢
    simp [this]
theorem trimB_zeros (n : Nat) : Lib.trimB (zeros n) 0 = [] := by
  have h : Lib.trimRightB (zeros n) 0 = [] := by
    have := trimLeftB_zeros n
    simp only [Lib.trimRightB, zeros, List.reverse_replicate]
    simp only [Lib.trimLeftB, zeros] at this
    first | (rw [this]; rfl) | simpa using this
  unfold Lib.trimB
  rw [h]; rfl

theorem frame_form (e q : Nat) (t : List UInt8) : frameB e q t = stampB e q ++ (numB t.length 1 ++ (t ++ (zeros (56 - (9 + t.length)) ++ stampB e q))) := by
  unfold frameB filled
  simp only [List.length_append, stampB_length, numB_length, List.append_assoc]
  rw [show 8 + (1 + t.length) = 9 + t.length by omega]

theorem open_frame (e q : Nat) (t : List UInt8) (ht : t.length ≤ 47) : openB e q (frameB e q t) = some t := by
  have h8 : (frameB e q t)[8]? = some (UInt8.ofNat t.length) := by
    rw [frame_form, List.getElem?_append_right (by rw [stampB_length]; decide), stampB_length]
    simp [numB]
  have hn : ((frameB e q t)[8]?.getD 0).toNat = t.length := by
    rw [h8]; simp; omega
  have hd9 : (frameB e q t).drop 9 = t ++ (zeros (56 - (9 + t.length)) ++ stampB e q) := by
    rw [frame_form, ← List.append_assoc]
    exact List.drop_left' (by rw [List.length_append, stampB_length, numB_length])
  have hdn : (frameB e q t).drop (9 + t.length) = zeros (56 - (9 + t.length)) ++ stampB e q := by
    rw [← List.drop_drop, hd9]
    exact List.drop_left' rfl
  have p1 : Lib.hasPrefix (frameB e q t) (stampB e q) = true := by
    rw [frame_form]; exact List.isPrefixOf_iff_prefix.2 (List.prefix_append _ _)
  have p2 : Lib.hasSuffix (frameB e q t) (stampB e q) = true := by
    unfold frameB; exact List.isSuffixOf_iff_suffix.2 (List.suffix_append _ _)
  have p3 : Lib.trimB (((frameB e q t).drop (9 + t.length)).take (47 - t.length)) 0 = [] := by
    rw [hdn, show 47 - t.length = (zeros (56 - (9 + t.length))).length by simp [zeros]; omega, List.take_left' rfl]
    exact trimB_zeros _
  unfold openB
  rw [hn, if_pos ⟨p1, p2, ht, p3⟩, hd9]
  exact congrArg some (List.take_left' rfl)

theorem text_super (s : SU) (hs : s.small) : textSuper s.epoch s.bytes = some s := by
  have d4 : (s.bytes.drop 4).take 2 = numB s.journal.toNat 2 := by simp [SU.bytes, magicB, numB_length]
  have d6 : (s.bytes.drop 6).take 2 = numB s.bits.toNat 2 := by simp [SU.bytes, magicB, numB_length]
  have d8 : (s.bytes.drop 8).take 2 = numB s.head 2 := by
    have e : s.bytes = ((magicB ++ numB s.journal.toNat 2) ++ numB s.bits.toNat 2) ++ (numB s.head 2 ++ numB s.next 4) := by simp [SU.bytes]
    rw [e, List.drop_left' (by simp [magicB, numB_length]), List.take_left' (numB_length _ _)]
  have d10 : (s.bytes.drop 10).take 4 = numB s.next 4 := by
    have e : s.bytes = (((magicB ++ numB s.journal.toNat 2) ++ numB s.bits.toNat 2) ++ numB s.head 2) ++ numB s.next 4 := rfl
    rw [e, List.drop_left' (by simp [magicB, numB_length]), List.take_of_length_le (by rw [numB_length]; decide)]
  unfold textSuper
  rw [if_pos ⟨s.bytes_length, by simp [SU.bytes, magicB]⟩, d4, d6, d8, d10]
  have h1 := hs.j0
  have h2 := hs.j1
  have h3 := hs.b0
  have h4 := hs.b1
  have h5 := hs.h1
  have h6 := hs.n1
  rw [beNat_numB_lt _ _ (by omega), beNat_numB_lt _ _ (by omega), beNat_numB_lt _ _ (by omega), beNat_numB_lt _ _ (by omega)]
  cases s
  simp only at h1 h2 h3 h4 ⊢
  rw [Int.toNat_of_nonneg h1, Int.toNat_of_nonneg h3]

/-- A super's sector is read as that super. -/
theorem parse_sector (s : SU) (hs : s.small) (n : Nat) (hck : suCheck s n = 0) : parseB s.sector n = some s := by
  have h1 := hs.e1
  unfold parseB SU.sector
  rw [frame_take, frame_take2, beNat_numB_lt _ _ (by omega), beNat_numB_lt 0 4 (by decide), open_frame _ _ _ (by rw [SU.bytes_length]; decide)]
  simp only [if_true, text_super s hs, hck]

theorem parse_blank (n : Nat) : parseB (zeros 64) n = none := by
  have h : frameB 0 0 [] = zeros 64 := by decide
  have ht : textSuper 0 [] = none := by decide
  have h0 := open_frame 0 0 [] (by decide)
  unfold parseB
  rw [← h, frame_take, frame_take2, beNat_numB_lt 0 4 (by decide), h0]
  simp only [if_true, ht]
end Go.Proofs.YtajojhfialbfkaaGreatDoor
/- Plain laws: what a formatted disk says. -/
namespace Go.Proofs.YtajojhfialbfkaaGreatDoor
open Go.RowKit
set_option maxRecDepth 100000

/-- What stands now in a sector. -/
def DS.now (D : DS) (i : Nat) : Option ByteArray := (D.l[i]?).map (·.2)
theorem now_sync (D : DS) (i : Nat) : D.sync.now i = D.now i := by
  unfold DS.now DS.sync
  rw [List.getElem?_map]
  cases D.l[i]? <;> rfl
theorem now_wrote {D : DS} (hc : D.calm) (k : Nat) (s : ByteArray) (i : Nat) (hi : i < D.l.length) : (D.wrote k s).now i = if i = k then some (bstr (filled s.data.toList 64)) else D.now i := by
  unfold DS.now DS.wrote DS.put
  rw [DS.calm_spent hc]
  simp only [List.getElem?_modify]
  rw [List.getElem?_eq_getElem hi]
  by_cases h : i = k
  · subst h; simp
  · have h' : ¬ k = i := fun e => h e.symm
    simp [h, h']
theorem now_blankTo {D : DS} (hc : D.calm) : ∀ (k i : Nat), i < k → k ≤ D.l.length → (blankTo D k).now i = some (bstr (zeros 64))
  | 0, _, h, _ => by omega
  | k + 1, i, h, hk => by
    rw [blankTo, now_wrote (blankTo_calm hc k) k _ i (by rw [blankTo_len]; omega)]
    by_cases hik : i = k
    · rw [if_pos hik]; rfl
    · rw [if_neg hik, now_blankTo hc k i (by omega) (by omega)]

theorem now_format {D : DS} (hc : D.calm) (j b : Int) (hj : 0 ≤ j) (hn : 2 + j ≤ (D.l.length : Int)) (i : Nat) (hi : i < (2 + j).toNat) :
    (D.format j b).now i = some (if i = 1 then bstr (newSU j b).sector else bstr (zeros 64)) := by
  unfold DS.format
  rw [now_sync, now_wrote (DS.calm_sync (blankTo_calm hc _)) 1 _ i (by rw [DS.sync_len, blankTo_len]; omega)]
  by_cases h : i = 1
  · rw [if_pos h, if_pos h, data_bstr]
    have : filled (newSU j b).sector 64 = (newSU j b).sector := by
      unfold filled
      rw [SU.sector_length]
      simp [zeros]
    rw [this]
  · rw [if_neg h, if_neg h, now_sync, now_blankTo hc _ i hi (by omega)]
theorem format_len (D : DS) (j b : Int) : (D.format j b).l.length = D.l.length := by
  unfold DS.format
  rw [DS.sync_len, DS.wrote_len, DS.sync_len, blankTo_len]
theorem format_calm {D : DS} (hc : D.calm) (j b : Int) : (D.format j b).calm := DS.calm_sync (DS.calm_wrote (DS.calm_sync (blankTo_calm hc _)) _ _)

theorem nowB_of {D : DS} {i : Nat} {s : ByteArray} (h : D.now i = some s) : nowB D i = s.data.toList := by
  unfold DS.now at h
  unfold nowB
  cases hx : D.l[i]? with
  | none => rw [hx] at h; cases h
  | some x =>
    rw [hx] at h
    injection h with h
    subst h; rfl

/-- The super of a formatted disk. -/
theorem read_format {D : DS} (hc : D.calm) (j b : Int) (hck : suCheck (newSU j b) D.l.length = 0) : readTo (D.format j b) (min 2 (D.format j b).l.length) = newSU j b := by
  obtain ⟨q1, q2, q3⟩ := suCheck_zero hck
  have q3 : 2 + j + 32 ≤ (D.l.length : Int) := q3
  have q4 := q1
  unfold suBad newSU at q4
  simp only [Bool.or_eq_false_iff, decide_eq_false_iff_not] at q4
  have hsm : (newSU j b).small := ⟨by show 0 ≤ j; omega, by show j ≤ 512; omega, by show 0 ≤ b; omega, by show b ≤ 256; omega, by show 0 ≤ 4096; omega, by show 1 < 4294967296; omega, by show 1 < 4294967296; omega⟩
  have h0 := nowB_of (now_format hc j b (by omega) (by omega) 0 (by omega))
  have h1 := nowB_of (now_format hc j b (by omega) (by omega) 1 (by omega))
  rw [if_neg (by decide), data_bstr] at h0
  rw [if_pos rfl, data_bstr] at h1
  have hm : min 2 (D.format j b).l.length = 2 := by rw [format_len]; omega
  rw [hm]
  have p0 : parseB (nowB (D.format j b) 0) (D.format j b).l.length = none := by rw [h0]; exact parse_blank _
  have p1 : parseB (nowB (D.format j b) 1) (D.format j b).l.length = some (newSU j b) := by
    rw [h1, format_len]; exact parse_sector _ hsm _ hck
  have r1 : readTo (D.format j b) 1 = zeroSU := by
    show (match parseB (nowB (D.format j b) 0) (D.format j b).l.length with
      | some s => if s.epoch % 2 = 0 ∧ (readTo (D.format j b) 0).epoch < s.epoch then s else readTo (D.format j b) 0
      | none => readTo (D.format j b) 0) = _
    rw [p0]; rfl
  show (match parseB (nowB (D.format j b) 1) (D.format j b).l.length with
      | some s => if s.epoch % 2 = 1 ∧ (readTo (D.format j b) 1).epoch < s.epoch then s else readTo (D.format j b) 1
      | none => readTo (D.format j b) 1) = _
  rw [p1, r1]
  rfl

theorem whole_fresh (n : Nat) : (DS.fresh n).whole := by
  intro x hx
  have := (List.mem_replicate.1 hx).2
  subst this
  have : blank.size = 64 := by unfold blank; rw [size_bstr]; simp [zeros]
  exact ⟨this, this⟩
theorem whole_sync {D : DS} (h : D.whole) : D.sync.whole := by
  intro x hx
  simp only [DS.sync, List.mem_map] at hx
  obtain ⟨y, hy, rfl⟩ := hx
  exact ⟨(h y hy).2, (h y hy).2⟩
theorem whole_wrote {D : DS} (h : D.whole) (hc : D.calm) (k : Nat) (s : ByteArray) (hs : s.size ≤ 64) : (D.wrote k s).whole := by
  intro x hx
  unfold DS.wrote DS.put at hx
  rw [DS.calm_spent hc] at hx
  obtain ⟨i, hi⟩ := List.mem_iff_getElem?.1 hx
  rw [List.getElem?_modify] at hi
  cases hq : D.l[i]? with
  | none => rw [hq] at hi; simp at hi
  | some y =>
    rw [hq] at hi
    have hy := h y (List.mem_of_getElem? hq)
    have hf : (bstr (filled s.data.toList 64)).size = 64 := by
      rw [size_bstr]
      have : s.data.toList.length = s.size := rfl
      simp only [filled, zeros, List.length_append, List.length_replicate]
      omega
    by_cases hk : k = i
    · simp [hk] at hi; subst hi; exact ⟨hy.1, hf⟩
    · simp [hk] at hi; subst hi; exact hy
theorem whole_blankTo {D : DS} (h : D.whole) (hc : D.calm) : ∀ k, (blankTo D k).whole
  | 0 => h
  | k + 1 => whole_wrote (whole_blankTo h hc k) (blankTo_calm hc k) k _ (by decide)
theorem whole_format {D : DS} (h : D.whole) (hc : D.calm) (j b : Int) : (D.format j b).whole :=
  whole_sync (whole_wrote (whole_sync (whole_blankTo h hc _)) (DS.calm_sync (blankTo_calm hc _)) 1 _ (by rw [size_bstr, SU.sector_length]; decide))
end Go.Proofs.YtajojhfialbfkaaGreatDoor
/- Law 4: Write, any; the sectors keep their length. -/
namespace Go.Proofs.YtajojhfialbfkaaGreatDoor
open Go.RowKit
set_option maxRecDepth 100000

section
variable {w : World} {d : Nat} {sv : Value} {D : DS}

/-- Any write on a calm disk: written, or an error. -/
theorem disk_write_junk2 (h : DiskAt w d sv D) (hc : D.calm) (hw : D.whole) (k : Nat) (s : ByteArray) (hs2 : s.size ≤ 140737488355328) :
    Calls Tryz.prog 47 #[.pointer (some ⟨d, 0, none⟩), .int .i64 (k : Int), .string s] w fun e w' =>
      (e = unit0 ∨ ∃ n, e = failed n) ∧ (∃ D', D'.calm ∧ D'.whole ∧ D'.l.length = D.l.length ∧ DiskAt w' d sv D') ∧ Fr (DiskF d sv) w w' := by
  rcases Nat.lt_or_ge k D.l.length with hk | hk
  · rcases Nat.lt_or_ge 64 s.size with hs | hs
    · refine (disk_write_big h hc.2.1 k hk s hs hs2).mono ?_
      rintro e w' ⟨rfl, hb⟩
      exact ⟨.inr ⟨_, rfl⟩, ⟨D, hc, hw, rfl, h.fr (Fr.of_below (F := fun _ => False) hb) (fun _ _ h => h)⟩, Fr.of_below hb⟩
    · refine (disk_write_calm h hc k hk s hs).mono ?_
      rintro e w' ⟨rfl, h1, hF⟩
      exact ⟨.inl rfl, ⟨_, DS.calm_wrote hc k s, whole_wrote hw hc k s hs, DS.wrote_len D k s, h1⟩, hF⟩
  · refine (disk_write_range h hc.2.1 k hk s).mono ?_
    rintro e w' ⟨rfl, rfl⟩
    exact ⟨.inr ⟨_, rfl⟩, ⟨D, hc, hw, rfl, h⟩, Fr.refl _ _⟩

theorem l4_write2 (h : DiskAt w d sv D) (hc : D.calm) (hw : D.whole) (k : Nat) (s : ByteArray) (hs2 : s.size ≤ 140737488355328) :
    Calls Tryz.prog 13 #[.pointer (some ⟨d, 0, none⟩), .int .i64 (k : Int), .string s] w fun e w' =>
      (∃ n, e = .returned (.int .i64 n)) ∧ (∃ D', D'.calm ∧ D'.whole ∧ D'.l.length = D.l.length ∧ DiskAt w' d sv D') ∧ Fr (DiskF d sv) w w' := by
  have H := Lib.hid h
  have HC := Lib.hid hc
  have HS := Lib.hid hs2
  have HWh := Lib.hid hw
  clear h hc hw hs2
  go_enter Tryz.func13, Tryz.ntmps13
  go_wp2_with fail
  refine (guard_any 46 #[] #[.pointer (some ⟨w.heap.size, 0, none⟩), .pointer (some ⟨w.heap.size + 1, 0, none⟩), .pointer (some ⟨w.heap.size + 1 + 1, 0, none⟩)] (enters_l4w _ _ _) _
    (fun _ w2 => (∃ D', D'.calm ∧ D'.whole ∧ D'.l.length = D.l.length ∧ DiskAt w2 d sv D') ∧ Fr (DiskF d sv) w w2) ?_).mono ?_
  · have hlt := H.out.lt
    have hs0 : w.heap.size = w.heap.size := rfl
    have F4 : Fr (fun _ => False) w ((((w.alloc (Obj.cells #[.pointer (some ⟨d, 0, none⟩)] 55)).alloc (Obj.cells #[.int .i64 (k : Int)] 3)).alloc (Obj.cells #[.string s] 9)).alloc (Obj.cells #[.int .i64 0] 29)) :=
      (((((Fr.refl _ w).alloc _).alloc _).alloc _).alloc _)
    have hD := H.out.fr F4 (fun _ _ h => h)
    have b0 := blk_alloc (o' := Obj.cells #[.int .i64 0] 29) (blk_alloc (o' := Obj.cells #[.string s] 9) (blk_alloc (o' := Obj.cells #[.int .i64 (k : Int)] 3) (blk_new (w := w) (o := Obj.cells #[.pointer (some ⟨d, 0, none⟩)] 55) rfl)))
    have b1 := blk_alloc (o' := Obj.cells #[.int .i64 0] 29) (blk_alloc (o' := Obj.cells #[.string s] 9) (blk_new (o := Obj.cells #[.int .i64 (k : Int)] 3) (size_alloc (w := w) (o := Obj.cells #[.pointer (some ⟨d, 0, none⟩)] 55) rfl)))
    have b2 := blk_alloc (o' := Obj.cells #[.int .i64 0] 29) (blk_new (o := Obj.cells #[.string s] 9) (size_alloc (o := Obj.cells #[.int .i64 (k : Int)] 3) (size_alloc (w := w) (o := Obj.cells #[.pointer (some ⟨d, 0, none⟩)] 55) rfl)))
    have hs3 := size_alloc (o := Obj.cells #[.string s] 9) (size_alloc (o := Obj.cells #[.int .i64 (k : Int)] 3) (size_alloc (w := w) (o := Obj.cells #[.pointer (some ⟨d, 0, none⟩)] 55) rfl))
    have b3 := blk_new (o := Obj.cells #[.int .i64 0] 29) hs3
    refine l4_write_in _ _ _ k s _ b0 b1 b2 ((disk_write_junk2 hD HC.out HWh.out k s HS.out).mono ?_)
    rintro e w2 ⟨he, hD2, hF⟩
    refine ⟨he, ?_, ?_⟩
    · rw [hs3]
      exact hF.blk b3 (fun hk => by have := hlt _ hk; omega)
    · have hR : (∃ D', D'.calm ∧ D'.whole ∧ D'.l.length = D.l.length ∧ DiskAt w2 d sv D') ∧ Fr (DiskF d sv) w w2 := ⟨hD2, F4.mono (fun _ _ h => h.elim) |>.trans hF (fun _ _ h => h)⟩
      rcases he with rfl | ⟨n, rfl⟩
      · exact .inl ⟨rfl, hR⟩
      · exact .inr ⟨n, rfl, hR⟩
  · rintro e w' ⟨o, w2, rfl, ⟨⟨D', h1, h1w, h2, h3⟩, h4⟩, hF⟩
    have hlt := H.out.lt
    have hs3 := size_alloc (o := Obj.cells #[.string s] 9) (size_alloc (o := Obj.cells #[.int .i64 (k : Int)] 3) (size_alloc (w := w) (o := Obj.cells #[.pointer (some ⟨d, 0, none⟩)] 55) rfl))
    rw [hs3] at hF
    have h3' := Lib.hid (h3.fr hF (fun x hx e => by have := hlt x hx; omega))
    have h4' := Lib.hid (h4.trans hF (fun x hx e => absurd e (by omega)))
    have h12 := Lib.hid (And.intro h1 (And.intro h1w h2))
    clear h1 h1w h2 h3 h4 hF hs3
    go_wp2_with fail
    go_ret
    exact ⟨⟨_, rfl⟩, ⟨D', h12.out.1, h12.out.2.1, h12.out.2.2, h3'.out⟩, h4'.out⟩
end
end Go.Proofs.YtajojhfialbfkaaGreatDoor
/- The document's own check of a super. -/
namespace Go.Proofs.YtajojhfialbfkaaGreatDoor
open Go.RowKit
set_option maxRecDepth 100000

set_option maxHeartbeats 1000000 in
theorem ref7_check (j b : Int) (n : Nat) (hn : n ≤ 4096) (w : World) :
    Calls Tryz.prog 50 #[.agg #[.int .i64 1, .int .i64 j, .int .i64 b, .int .i64 0, .int .i64 1], .int .i64 (n : Int)] w fun e w' => e = .returned (.int .i64 (suCheck (newSU j b) n)) ∧ Below w.heap.size w w' := by
  obtain ⟨c, hc⟩ : ∃ c, suCheck (newSU j b) n = c := ⟨_, rfl⟩
  rw [hc]
  have HC := Lib.hid hc
  have HN := Lib.hid hn
  clear hc
  have hB := Lib.hid ((Below.refl w.heap.size w).alloc (Nat.le_refl _) (Obj.cells #[.int .i64 1, .int .i64 j, .int .i64 b, .int .i64 0, .int .i64 1] 117))
  go_enter Tryz.func50, Tryz.ntmps50
  go_wp2_with fail
  all_goals first
    | (go_ret
       refine ⟨?_, hB.out⟩
       have h1 := HC.out
       have h2 := HN.out
       unfold suCheck suBad newSU at h1
       simp only [Bool.or_eq_true, decide_eq_true_eq, Nat.one_ne_zero, or_false, ne_eq, not_true_eq_false, false_and, if_false] at h1
       first
         | (rw [if_pos (by omega)] at h1; rw [← h1]; rfl)
         | (rw [if_neg (by omega), if_neg (by omega), if_pos (by omega)] at h1; rw [← h1]; rfl)
         | (rw [if_neg (by omega), if_neg (by omega), if_neg (by omega)] at h1; rw [← h1]; rfl))
    | fail

theorem ref18_format (n : Nat) (hn : n ≤ 4096) (j b : Int) (w : World) :
    Calls Tryz.prog 15 #[.int .i64 (n : Int), .int .i64 j, .int .i64 b] w fun e w' => e = .returned (.int .i64 (suCheck (newSU j b) n)) ∧ Below w.heap.size w w' := by
  go_enter Tryz.func15, Tryz.ntmps15
  go_wp2_with fail
  refine (ref7_check j b n hn w).mono ?_
  rintro e w' ⟨rfl, hb⟩
  have HB := Lib.hid hb
  clear hb
  go_wp2_with fail
  go_ret
  exact ⟨rfl, HB.out⟩
end Go.Proofs.YtajojhfialbfkaaGreatDoor
/- Law 4: Read. -/
namespace Go.Proofs.YtajojhfialbfkaaGreatDoor
open Go.RowKit
set_option maxRecDepth 100000

section
variable {w : World} {d : Nat} {sv : Value} {D : DS}

theorem enters_l4r (a b c : Value) : Enters 55 (#[] ++ #[a, b, c]) := fun w => by simp [go_sem]

theorem l4_read_in (a b c k : Nat) (hk : k < D.l.length) (h : DiskAt w d sv D) (hz : D.dead = false) (ha : w.heap[a]? = some (.cells #[.pointer (some ⟨d, 0, none⟩)] 55 (0, 0))) (hb : w.heap[b]? = some (.cells #[.int .i64 (k : Int)] 3 (0, 0))) (hc : w.heap[c]? = some (.cells #[.string ⟨#[]⟩] 9 (0, 0))) :
    Calls Tryz.prog 55 (#[] ++ #[.pointer (some ⟨a, 0, none⟩), .pointer (some ⟨b, 0, none⟩), .pointer (some ⟨c, 0, none⟩)]) w fun e w' => e = unit0 ∧ w' = w.setCell ⟨c, 0, none⟩ (.string D.l[k].2) := by
  have ha := cell_blk ha
  have hb := cell_blk hb
  have hf := frozen_blk hc
  have hc := cell_blk hc
  have HR := Lib.hid (disk_read h hz k hk)
  clear h hz
  simp only [List.nil_append, List.append_toArray]
  go_enter Tryz.func55, Tryz.ntmps55
  go_wp2_with fail
  refine HR.out.mono ?_
  rintro e w' ⟨rfl, rfl⟩
  go_wp2_with fail
  go_end0
  exact ⟨rfl, rfl⟩

theorem l4_read (h : DiskAt w d sv D) (hz : D.dead = false) (k : Nat) (hk : k < D.l.length) :
    Calls Tryz.prog 19 #[.pointer (some ⟨d, 0, none⟩), .int .i64 (k : Int)] w fun e w' =>
      e = .returned (.tuple #[.string D.l[k].2, .int .i64 0]) ∧ Below w.heap.size w w' := by
  have H := Lib.hid h
  have HZ := Lib.hid hz
  clear h hz
  go_enter Tryz.func19, Tryz.ntmps19
  go_wp2_with fail
  have F4 : Fr (fun _ => False) w ((((w.alloc (Obj.cells #[.pointer (some ⟨d, 0, none⟩)] 55)).alloc (Obj.cells #[.int .i64 (k : Int)] 3)).alloc (Obj.cells #[.string ⟨#[]⟩] 9)).alloc (Obj.cells #[.int .i64 0] 29)) :=
    (((((Fr.refl _ w).alloc _).alloc _).alloc _).alloc _)
  have b0 := blk_alloc (o' := Obj.cells #[.int .i64 0] 29) (blk_alloc (o' := Obj.cells #[.string ⟨#[]⟩] 9) (blk_alloc (o' := Obj.cells #[.int .i64 (k : Int)] 3) (blk_new (w := w) (o := Obj.cells #[.pointer (some ⟨d, 0, none⟩)] 55) rfl)))
  have b1 := blk_alloc (o' := Obj.cells #[.int .i64 0] 29) (blk_alloc (o' := Obj.cells #[.string ⟨#[]⟩] 9) (blk_new (o := Obj.cells #[.int .i64 (k : Int)] 3) (size_alloc (w := w) (o := Obj.cells #[.pointer (some ⟨d, 0, none⟩)] 55) rfl)))
  have b2 := blk_alloc (o' := Obj.cells #[.int .i64 0] 29) (blk_new (o := Obj.cells #[.string ⟨#[]⟩] 9) (size_alloc (o := Obj.cells #[.int .i64 (k : Int)] 3) (size_alloc (w := w) (o := Obj.cells #[.pointer (some ⟨d, 0, none⟩)] 55) rfl)))
  have hs3 := size_alloc (o := Obj.cells #[.string ⟨#[]⟩] 9) (size_alloc (o := Obj.cells #[.int .i64 (k : Int)] 3) (size_alloc (w := w) (o := Obj.cells #[.pointer (some ⟨d, 0, none⟩)] 55) rfl))
  have b3 := blk_new (o := Obj.cells #[.int .i64 0] 29) hs3
  refine (guard_any 55 #[] #[.pointer (some ⟨w.heap.size, 0, none⟩), .pointer (some ⟨w.heap.size + 1, 0, none⟩), .pointer (some ⟨w.heap.size + 1 + 1, 0, none⟩)] (enters_l4r _ _ _) _
    (fun o w2 => o = none ∧ w2.heap[w.heap.size + 1 + 1]? = some (.cells #[.string D.l[k].2] 9 (0, 0)) ∧ Below w.heap.size w w2) ?_).mono ?_
  · refine (l4_read_in _ _ _ k hk (H.out.fr F4 (fun _ _ h => h)) HZ.out b0 b1 b2).mono ?_
    rintro e w2 ⟨rfl, rfl⟩
    rw [hs3]
    exact ⟨blk_far (p := ⟨w.heap.size + 1 + 1, 0, none⟩) b3 (by show w.heap.size + 1 + 1 + 1 ≠ w.heap.size + 1 + 1; omega), .inl ⟨rfl, rfl, blk_set b2, (F4.below (fun _ _ h => h.elim) (Nat.le_refl _)).setCell (by show w.heap.size ≤ w.heap.size + 1 + 1; omega) _⟩⟩
  · rintro e w3 ⟨o, w2, rfl, ⟨rfl, hx, hB⟩, hF⟩
    rw [hs3] at hF
    have hx3 := hF.blk hx (by omega)
    have hc3 := cell_blk hx3
    have HB := Lib.hid (hB.trans (hF.below (B := w.heap.size) (fun x _ e => by omega) hB.size))
    clear F4 b0 b1 b2 b3 hs3 hx hB hF hx3
    simp only [Option.getD_none]
    go_wp2_with fail
    go_ret2
    exact ⟨rfl, HB.out⟩
end
end Go.Proofs.YtajojhfialbfkaaGreatDoor
/- Layer 16: put, add. -/
namespace Go.Proofs.YtajojhfialbfkaaGreatDoor
open Go.RowKit
set_option maxRecDepth 100000

section
variable {w w' : World} {B : HB} {C : CB} {S : HS} {K : KS} {yg : Nat} {gv lv : Value} {depth : Nat} {cs : List CStep}

/-- Blocks that put turns. -/
def CF (B : HB) (C : CB) (yg : Nat) (lv : Value) (k : Nat) : Prop := HF B yg lv k ∨ k ∈ [C.c, C.l, C.ix]

set_option maxHeartbeats 1000000 in
theorem core_put (h : CW w B C S K yg gv lv depth cs) (hd : 0 < depth) (hl : cs.length ≤ 90000) (E : EN) (hE : ukOk E.id) :
    Calls Tryz.prog 66 #[.pointer (some ⟨C.c, 0, none⟩), ev E] w fun e w' =>
      e = unit0 ∧ (∃ lv' new, CW w' B C S { K with vols := mput K.vols E.id (some E) } yg gv lv' depth (cs ++ [new]) ∧ (∀ k, lv'.ownBlock = some k → lv.ownBlock = some k ∨ w.heap.size ≤ k) ∧ ∃ x1 x2 x3 x4, new = .vol false x1 x2 x3 x4 E.id (K.vols E.id)) ∧ Fr (CF B C yg lv) w w' := by
  have h1 := h.fr_new (((Fr.refl (fun _ => False) w).alloc (.cells #[.int .u32 (E.id : Int), .int .u32 (E.parent : Int), .bool E.only, .int .i64 (E.size : Int), .int .i64 (E.root : Int), .int .u32 (E.born : Int)] 50)).drew)
  have hb := blk_new (w := w) (o := .cells #[.int .u32 (E.id : Int), .int .u32 (E.parent : Int), .bool E.only, .int .i64 (E.size : Int), .int .i64 (E.root : Int), .int .u32 (E.born : Int)] 50) rfl
  have hF0 : Fr (fun _ => False) w (w.alloc (.cells #[.int .u32 (E.id : Int), .int .u32 (E.parent : Int), .bool E.only, .int .i64 (E.size : Int), .int .i64 (E.root : Int), .int .u32 (E.born : Int)] 50)) := (Fr.refl _ w).alloc _
  have hz : w.heap.size + 1 = (w.alloc (.cells #[.int .u32 (E.id : Int), .int .u32 (E.parent : Int), .bool E.only, .int .i64 (E.size : Int), .int .i64 (E.root : Int), .int .u32 (E.born : Int)] 50)).heap.size := by simp
  obtain ⟨ga, gn, gc, rfl, _, _⟩ : ∃ ga gn gc, gv = .slice ga gn gc ∧ True ∧ True := by
    obtain ⟨ao, cap, e, _, _⟩ := ownsRow_form h.hw.gone
    exact ⟨ao, _, cap, e, trivial, trivial⟩
  have H := Lib.hid h
  have HD := Lib.hid hd
  have HL := Lib.hid hl
  have HE := Lib.hid hE
  clear h hd hl hE
  unfold ev
  go_enter Tryz.func66, Tryz.ntmps66
  go_wp2_with fail
  generalize w.alloc (.cells #[.int .u32 (E.id : Int), .int .u32 (E.parent : Int), .bool E.only, .int .i64 (E.size : Int), .int .i64 (E.root : Int), .int .u32 (E.born : Int)] 50) = w1 at *
  have hc1 := cell_blk hb
  have hc2 := cell_blk h1.co.hc
  have hc3 := cell_blk h1.hw.hh
  have H1 := Lib.hid h1
  have HF0 := Lib.hid hF0
  have HZ := Lib.hid hz
  clear h1 hb hF0 hz
  refine wp_region_perm 14 (fun w' => (∀ i, w'.cell? ⟨w.heap.size, i, none⟩ = #[.int .u32 (E.id : Int), .int .u32 (E.parent : Int), .bool E.only, .int .i64 (E.size : Int), .int .i64 (E.root : Int), .int .u32 (E.born : Int)][i]?) ∧ (∀ i, w'.cell? ⟨C.c, i, none⟩ = #[.pointer (some ⟨B.h, 0, none⟩), .pointer (some ⟨C.r, 0, none⟩), .map (some C.l), .int .u32 (K.next : Int), .int .u32 (K.epoch : Int)][i]?) ∧ (∀ i, w'.cell? ⟨B.h, i, none⟩ = #[.pointer (some ⟨B.d, 0, none⟩), .pointer (some ⟨B.g, 0, none⟩), .pointer (some ⟨B.m, 0, none⟩), .map (some B.rf), .map (some yg), .slice ga gn gc, .int .i64 (S.keep : Int)][i]?)) [(0, true), (1, true), (2, true), (3, true), (4, true), (5, true), (6, true), (7, true), (8, true), (9, true), (10, true), (11, true), (12, true), (13, true)] (by kernel_rfl) (by kernel_rfl) ?_ (by intro c a d v w h; cases d <;> exact h) ?_
  · exact ⟨hc1, hc2, hc3⟩
  simp only [pickOps, List.getElem?_cons_succ, List.getElem?_cons_zero, List.map_cons, List.map_nil, List.drop_succ_cons, List.drop_zero]
  repeat ((with_reducible refine wpMix_read ?_ (fun K hK => ?_)); (focus rfl); apply Exists.intro; refine ⟨fun w' hS => ?_, ?_⟩; (focus (try dsimp only at hS; go_simp; try rfl)); go_simp; refine hK _ ?_; clear hK K)
  refine wpMix_nil ?_
  have hp := u_put_vol H1.out.hw.log HD.out (by have := HL.out; simp; omega) C.l K.vols H1.out.co.vols E.id E HE.out (fun f => H1.out.not_HF (k := C.l) (by simp) (H1.out.hw.logF f))
  have HP := Lib.hid hp
  clear hp hc1 hc2 hc3
  unfold ev uk at HP
  go_wp2_with fail
  refine HP.out.mono ?_
  rintro e w2 ⟨rfl, ⟨⟨lv', x1, x2, x3, x4, hL, hlv, a1, a2, a3, a4, n1, n2, n3, n4, b1, b2, b3, b4⟩, hF⟩, hm⟩
  have hz := HZ.out
  have h2 := H1.out.of_vol (drop := false) (lv' := lv') (key := E.id) (by simpa using hL) hlv a1 a2 a3 a4 n1 n2 n3 n4 b1 b2 b3 b4 hm hF
  have hFw : Fr (CF B C yg lv) w w2 := ((HF0.out.drew).mono (fun _ _ f => f.elim)).trans hF (fun k _ f => f.elim (fun f => .inl (H.out.hw.logF f)) (fun f => .inr (by simp [f])))
  have hlv2 : ∀ k, lv'.ownBlock = some k → lv.ownBlock = some k ∨ w.heap.size ≤ k := fun k hk => (hlv k hk).imp_right (fun f => by have f : w1.heap.size ≤ k := f; omega)
  have R := Lib.hid (And.intro h2 (And.intro hFw hlv2))
  clear hL hlv a1 a2 a3 a4 n1 n2 n3 n4 b1 b2 b3 b4 hF hm hz h2 hFw hlv2
  go_wp2_with fail
  go_end0
  exact ⟨rfl, ⟨lv', _, R.out.1, R.out.2.2, x1, x2, x3, x4, rfl⟩, R.out.2.1⟩

/-- An entry as add makes it. -/
def EN.at (E : EN) (id born : Nat) : EN := { E with id := id, born := born }

set_option maxHeartbeats 2000000 in
theorem core_add (h : CW w B C S K yg gv lv depth cs) (hd : 0 < depth) (hl : cs.length ≤ 80000) (E : EN) (hK : K.next + 1 < 4294967296) :
    Calls Tryz.prog 116 #[.pointer (some ⟨C.c, 0, none⟩), ev E] w fun e w' =>
      e = .returned (uk K.next) ∧ (∃ lv' x y x1 x2 x3 x4, CW w' B C S { K with next := K.next + 1, vols := mput K.vols K.next (some (E.at K.next K.epoch)) } yg gv lv' depth (cs ++ [.next x y K.next, .vol false x1 x2 x3 x4 K.next (K.vols K.next)]) ∧ (∀ k, lv'.ownBlock = some k → lv.ownBlock = some k ∨ w.heap.size ≤ k)) ∧ Fr (CF B C yg lv) w w' := by
  have h1 := h.fr_new (((Fr.refl (fun _ => False) w).alloc (.cells #[.int .u32 (E.id : Int), .int .u32 (E.parent : Int), .bool E.only, .int .i64 (E.size : Int), .int .i64 (E.root : Int), .int .u32 (E.born : Int)] 50)))
  have hb := blk_new (w := w) (o := .cells #[.int .u32 (E.id : Int), .int .u32 (E.parent : Int), .bool E.only, .int .i64 (E.size : Int), .int .i64 (E.root : Int), .int .u32 (E.born : Int)] 50) rfl
  have hF0 : Fr (fun _ => False) w (w.alloc (.cells #[.int .u32 (E.id : Int), .int .u32 (E.parent : Int), .bool E.only, .int .i64 (E.size : Int), .int .i64 (E.root : Int), .int .u32 (E.born : Int)] 50)) := (Fr.refl _ w).alloc _
  have hz : w.heap.size + 1 = (w.alloc (.cells #[.int .u32 (E.id : Int), .int .u32 (E.parent : Int), .bool E.only, .int .i64 (E.size : Int), .int .i64 (E.root : Int), .int .u32 (E.born : Int)] 50)).heap.size := by simp
  obtain ⟨ga, gn, gc, rfl, _, _⟩ : ∃ ga gn gc, gv = .slice ga gn gc ∧ True ∧ True := by
    obtain ⟨ao, cap, e, _, _⟩ := ownsRow_form h.hw.gone
    exact ⟨ao, _, cap, e, trivial, trivial⟩
  have hnc : C.c ≠ w.heap.size := by have := lt_of_blk h.co.hc; omega
  have H := Lib.hid h
  have HD := Lib.hid hd
  have HL := Lib.hid hl
  have HK := Lib.hid hK
  clear h hd hl hK
  unfold ev
  go_enter Tryz.func116, Tryz.ntmps116
  go_wp2_with fail
  generalize w.alloc (.cells #[.int .u32 (E.id : Int), .int .u32 (E.parent : Int), .bool E.only, .int .i64 (E.size : Int), .int .i64 (E.root : Int), .int .u32 (E.born : Int)] 50) = w1 at *
  have hc1 := cell_blk hb
  have hf1 := frozen_blk hb
  have hc2 := cell_blk h1.co.hc
  have hb2 := blk_set (i := 0) (v := .int .u32 (K.next : Int)) hb
  have hb3 := blk_set (i := 5) (v := .int .u32 (K.epoch : Int)) hb2
  simp only [List.setIfInBounds_toArray, List.set_cons_zero, List.set_cons_succ] at hb2 hb3
  have hcc2 := cell_blk (blk_far (p := ⟨w.heap.size, 0, none⟩) (v := .int .u32 (K.next : Int)) h1.co.hc hnc)
  have hF3 : Fr (fun _ => False) w ((w1.setCell ⟨w.heap.size, 0, none⟩ (.int .u32 (K.next : Int))).setCell ⟨w.heap.size, 5, none⟩ (.int .u32 (K.epoch : Int))) := (hF0.setCell (p := ⟨w.heap.size, 0, none⟩) (fun h => by simp only at h; omega) _).setCell (p := ⟨w.heap.size, 5, none⟩) (fun h => by simp only at h; omega) _
  have HB3 := Lib.hid hb3
  have HF3 := Lib.hid hF3
  have H1 := Lib.hid h1
  have HF0 := Lib.hid hF0
  have HZ := Lib.hid hz
  have hc3 := cell_blk hb2
  have hf3 := frozen_blk hb2
  clear h1 hF0 hz hb3 hF3 hb hb2
  refine wp_region_perm 11 (fun w' => (∀ i, w'.cell? ⟨C.c, i, none⟩ = #[.pointer (some ⟨B.h, 0, none⟩), .pointer (some ⟨C.r, 0, none⟩), .map (some C.l), .int .u32 (K.next : Int), .int .u32 (K.epoch : Int)][i]?)) [(0, true), (1, true), (2, true), (3, true), (4, true), (5, true), (6, true), (7, true), (8, true), (9, false), (10, true)] (by kernel_rfl) (by kernel_rfl) ?_ (by intro c a d v w h; cases d <;> exact h) ?_
  · exact hc2
  simp only [pickOps, List.getElem?_cons_succ, List.getElem?_cons_zero, List.map_cons, List.map_nil, List.drop_succ_cons, List.drop_zero]
  repeat ((with_reducible refine wpMix_read ?_ (fun K hK => ?_)); (focus rfl); apply Exists.intro; refine ⟨fun w' hS => ?_, ?_⟩; (focus (try dsimp only at hS; go_simp; try rfl)); go_simp; refine hK _ ?_; clear hK K)
  refine wpMix_act rfl (fun K hK => ?_)
  go_simp
  refine hK _ _ hcc2 ?_; clear hK K
  repeat ((with_reducible refine wpMix_read ?_ (fun K hK => ?_)); (focus rfl); apply Exists.intro; refine ⟨fun w' hS => ?_, ?_⟩; (focus (try dsimp only at hS; go_simp; try rfl)); go_simp; refine hK _ ?_; clear hK K)
  refine wpMix_nil ?_
  go_wp2_with fail
  have hF4 := (HF3.out).drew
  have hb4 := blk_drew HB3.out
  have h4 := H.out.fr_new hF4
  have hz4 := hF4.size
  generalize ((w1.setCell ⟨w.heap.size, 0, none⟩ (.int .u32 (K.next : Int))).setCell ⟨w.heap.size, 5, none⟩ (.int .u32 (K.epoch : Int))).drew = w4 at *
  have hcc4 := cell_blk h4.co.hc
  have hch4 := cell_blk h4.hw.hh
  have hwk : IntKind.u32.wrap ((K.next : Int) + 1) = (K.next : Int) + 1 := IntWalk.u32_in _ (by have := HK.out; omega)
  have H4 := Lib.hid h4
  have HF4 := Lib.hid hF4
  have HB4 := Lib.hid hb4
  have HZ4 := Lib.hid hz4
  clear h4 hF4 hb4 hz4 hc1 hf1 hc2 hc3 hf3 hcc2 HB3 HF3
  refine wp_region_perm 15 (fun w' => (∀ i, w'.cell? ⟨C.c, i, none⟩ = #[.pointer (some ⟨B.h, 0, none⟩), .pointer (some ⟨C.r, 0, none⟩), .map (some C.l), .int .u32 (K.next : Int), .int .u32 (K.epoch : Int)][i]?) ∧ (∀ i, w'.cell? ⟨B.h, i, none⟩ = #[.pointer (some ⟨B.d, 0, none⟩), .pointer (some ⟨B.g, 0, none⟩), .pointer (some ⟨B.m, 0, none⟩), .map (some B.rf), .map (some yg), .slice ga gn gc, .int .i64 (S.keep : Int)][i]?)) [(0, true), (1, true), (2, true), (3, true), (4, true), (5, true), (6, true), (7, true), (8, true), (9, true), (10, true), (11, true), (12, true), (13, true), (14, true)] (by kernel_rfl) (by kernel_rfl) ?_ (by intro c a d v w h; cases d <;> exact h) ?_
  · exact ⟨hcc4, hch4⟩
  simp only [pickOps, List.getElem?_cons_succ, List.getElem?_cons_zero, List.map_cons, List.map_nil, List.drop_succ_cons, List.drop_zero]
  repeat ((with_reducible refine wpMix_read ?_ (fun K hK => ?_)); (focus rfl); apply Exists.intro; refine ⟨fun w' hS => ?_, ?_⟩; (focus (try dsimp only at hS; go_simp; try rfl)); go_simp; refine hK _ ?_; clear hK K)
  refine wpMix_nil ?_
  go_wp2_with fail
  have h4d := H4.out.fr_new ((Fr.refl (fun _ => False) w4).drew)
  refine (u_set_u32 h4d.hw.log HD.out (by have := HL.out; simp; omega) C.c 3 _ _ (K.next : Int) ((K.next : Int) + 1) h4d.co.hc (by rfl) (fun f => H4.out.not_HF (k := C.c) (by simp) (H4.out.hw.logF f))).mono ?_
  rintro e w5 ⟨rfl, ⟨lv5, x, y, hL5, hlv5, a1, a2, n1, n2, b1, b2⟩, hb5, hF5⟩
  simp only [List.setIfInBounds_toArray, List.set_cons_zero, List.set_cons_succ] at hb5
  have h5 := h4d.of_next (n := K.next + 1) (by simpa using hL5) hlv5 a1 a2 n1 n2 b1 b2 (by simpa using hb5) hF5
  have hz0 := HZ4.out
  have hnl : ¬ (LogF B.g lv w.heap.size ∨ w.heap.size = C.c) := by
    rintro (f | f)
    · have := H.out.hw.lt _ (H.out.hw.logF f); omega
    · exact hnc f.symm
  have hbx := hF5.blk (blk_drew HB4.out) hnl
  have hlv5' : ∀ k, lv5.ownBlock = some k → lv.ownBlock = some k ∨ w.heap.size ≤ k := fun k hk => (hlv5 k hk).imp_right (fun f => by have f : w4.heap.size ≤ k := f; omega)
  have hF5' : Fr (CF B C yg lv) w w5 := ((HF4.out.drew).mono (fun _ _ f => f.elim)).trans hF5 (fun k _ f => f.elim (fun f => .inl (H.out.hw.logF f)) (fun f => .inr (by simp [f])))
  have hcx := cell_blk hbx
  have H5 := Lib.hid h5
  have HV5 := Lib.hid hlv5'
  have HF5 := Lib.hid hF5'
  have HZ5 := Lib.hid hF5'.size
  have HBx := Lib.hid hbx
  have hput := core_put h5 HD.out (by have := HL.out; simp; omega) (E.at K.next K.epoch) (by show K.next < 4294967296; have := HK.out; omega)
  simp only [ev, EN.at] at hput
  have HPut := Lib.hid hput
  clear hput hL5 hlv5 a1 a2 n1 n2 b1 b2 hb5 hF5 h5 hz0 hbx hlv5' hF5' hcc4 hch4 h4d
  go_wp2_with fail
  refine HPut.out.mono ?_
  rintro e w6 ⟨rfl, ⟨lv6, new, h6, hlv6, x1, x2, x3, x4, rfl⟩, hF6⟩
  have hlv6' := lv_trans (w := w) (lv := lv) HZ5.out HV5.out hlv6
  have hnx : ¬ CF B C yg lv5 w.heap.size := by
    rintro (f | f)
    · rcases f with f | f
      · have := H.out.hw.lt _ (.inl f); omega
      · exact ownsRow_ne H5.out.hw.log.row HBx.out (by decide) f
    · have := (H.out.alien w.heap.size (by
        simp only [List.mem_cons, List.not_mem_nil, or_false] at f ⊢
        rcases f with f | f | f <;> simp [f])).lt
      omega
  have hbx6 := hF6.blk HBx.out hnx
  have hc6 := cell_blk hbx6
  have H6 := Lib.hid h6
  have HV6 := Lib.hid hlv6'
  have HF6 := Lib.hid (HF5.out.trans hF6 (fun k hk f => f.elim (fun f => .inl (HF_back HV5.out k hk f)) .inr))
  clear h6 hlv6 hF6 hlv6' hnx hbx6 hcx
  go_wp2_with fail
  go_ret
  have h6 := H6.out
  simp only [List.append_assoc, List.cons_append, List.nil_append] at h6
  exact ⟨rfl, ⟨lv6, x, y, x1, x2, x3, x4, h6, HV6.out⟩, HF6.out⟩
end
end Go.Proofs.YtajojhfialbfkaaGreatDoor
/- Layers 10, 16: Try of a core's heap, where what runs does not fail. -/
namespace Go.Proofs.YtajojhfialbfkaaGreatDoor
open Go.RowKit
set_option maxRecDepth 100000

section
variable {w w' : World} {B : HB} {C : CB} {S : HS} {K : KS} {yg : Nat} {gv lv : Value} {depth : Nat} {cs : List CStep}

theorem HW.lv_eq {S' : HS} {yg' : Nat} {gv' lv' : Value} {d' : Nat} {s s' : List Step} (h : HW w B S yg gv lv depth s) (h' : HW w B S' yg' gv' lv' d' s') : lv = lv' := by
  have h1 := h.log.hg
  rw [h'.log.hg] at h1
  injection h1 with h1
  injection h1 with h1
  have := congrArg (fun a => a[0]?) h1
  simpa using this.symm

/-- What a run leaves within a core's Try. -/
def CRun (B : HB) (C : CB) (yg : Nat) (Q : HS → KS → Value → World → Prop) (w : World) : Prop :=
  ∃ S K gv lv cs, CW w B C S K yg gv lv 1 cs ∧ Q S K lv w ∧ S.G.ok ∧ (∀ a ∈ S.gone, a ≤ 100000) ∧ S.gone.length ≤ 100000

/-- .. and the Try. -/
def CTried (B : HB) (C : CB) (yg x : Nat) (Q : HS → KS → Value → World → Prop) (w' : World) : Prop :=
  ∃ S K w2 lv2, Q S K lv2 w2 ∧ CW w' B C S.free K yg (.slice none 0 0) (.slice none 0 0) 0 [] ∧ Fr (fun k => HF B yg lv2 k ∨ k = x) w2 w' ∧ S.free.G.ok

theorem CW.enter (h : CW w B C S K yg gv lv 0 []) : CW ((deeper w B.g 0).alloc (.cells #[.int .i64 0] 29)) B C S K yg gv lv 1 [] := by
  have hF : Fr (fun k => k = B.g) w (deeper w B.g 0) := (Fr.refl (fun k => k = B.g) w).setCell (p := ⟨B.g, 1, none⟩) (fun _ => rfl) _
  have h1 := CW.of_heap (cs' := []) h (hF.mono (fun k _ hk => .inl (by rw [hk]; simp))) (HW.enter h.hw)
  exact h1.fr_new ((Fr.refl (fun _ => False) _).alloc _)

set_option maxHeartbeats 1000000 in
theorem ctry_ok (h : CW w B C S K yg gv lv 0 []) (f : FuncId) (cap : Array Value) (he : Enters f (#[] ++ cap)) (Q : HS → KS → Value → World → Prop)
    (hrun : Calls Tryz.prog f (#[] ++ cap) ((deeper w B.g 0).alloc (.cells #[.int .i64 0] 29)) fun e w2 => e = unit0 ∧ w2.heap[w.heap.size]? = some (.cells #[.int .i64 0] 29 (0, 0)) ∧ CRun B C yg Q w2) :
    Calls Tryz.prog 37 #[.pointer (some ⟨B.h, 0, none⟩), cl f cap] w fun e w' => e = .returned (.int .i64 0) ∧ CTried B C yg w.heap.size Q w' := by
  refine (heap_try_ok h.hw f cap he (fun S' w2 => w2.heap[w.heap.size]? = some (.cells #[.int .i64 0] 29 (0, 0)) ∧ ∃ K' gv' lv' cs', CW w2 B C S' K' yg gv' lv' 1 cs' ∧ Q S' K' lv' w2) (hrun.mono ?_)).mono ?_
  · rintro e w2 ⟨rfl, hb, S', K', gv', lv', cs', hW, hQ, q1, q2, q3⟩
    exact ⟨rfl, hb, ⟨S', gv', lv', _, hW.hw, ⟨hb, K', gv', lv', cs', hW, hQ⟩, q1, q2, q3⟩⟩
  · rintro e w' ⟨rfl, ⟨S', w2, gv2, lv2, s2, hW2, ⟨hb, K', gv', lv', cs', hC, hQ⟩, hW3, hF, q1⟩⟩
    have e1 := HW.lv_eq hW2 hC.hw
    subst e1
    refine ⟨rfl, S', K', w2, lv2, hQ, ?_, hF, q1⟩
    have hn : ∀ k ∈ [C.c, C.r, C.x, C.l, C.ix], ¬ (HF B yg lv2 k ∨ k = w.heap.size) := by
      rintro k hk (f | rfl)
      · exact hC.not_HF hk f
      · simp only [List.mem_cons, List.not_mem_nil, or_false] at hk
        rcases hk with e | e | e | e | e
        · exact ne_blk hb hC.co.hc (by decide) e
        · exact ne_blk hb hC.co.hr (by decide) e
        · exact ne_blk hb hC.co.hx (by decide) e
        · exact map_ne_cells hC.co.vols.raw hb e.symm
        · exact map_ne_cells hC.ix.raw hb e.symm
    exact ⟨hW3, ⟨hF.blk hC.co.hc (hn _ (by simp)), hF.blk hC.co.hr (hn _ (by simp)), hF.blk hC.co.hx (hn _ (by simp)), hC.co.vols.fr hF (hn _ (by simp))⟩, hC.ix.fr hF (hn _ (by simp)), hC.apart⟩

/-- Keep, of a core. -/
theorem core_keep (h : CW w B C S K yg gv lv depth cs) (hd : 0 < depth) (hl : cs.length ≤ 90000) (n : Nat) (hn : n ≤ 100000) :
    Calls Tryz.prog 118 #[.pointer (some ⟨B.h, 0, none⟩), .int .i64 (n : Int)] w fun e w' =>
      e = unit0 ∧ (∃ lv' x y, CW w' B C { S with keep := n } K yg gv lv' depth (cs ++ [.low (.keep x y S.keep)]) ∧ (∀ k, lv'.ownBlock = some k → lv.ownBlock = some k ∨ w.heap.size ≤ k)) ∧ Fr (HF B yg lv) w w' := by
  refine (heap_keep h.hw hd (by simp; omega) n hn).mono ?_
  rintro e w' ⟨rfl, ⟨lv', x, y, hW, hlv, _⟩, hF⟩
  refine ⟨rfl, ⟨lv', x, y, h.of_heap hF ?_, hlv⟩, hF⟩
  rw [List.map_append]; exact hW

/-- How many volumes. -/
def VolsAre (f : Nat → Option EN) (l : List EN) : Prop := l.Pairwise (fun a b => a.id < b.id) ∧ ∀ a, f a = l.find? (fun e => e.id == a)

theorem VolsAre.nodup {f : Nat → Option EN} {l : List EN} (h : VolsAre f l) : (l.map (·.id)).Nodup := by
  unfold List.Nodup
  rw [List.pairwise_map]
  exact h.1.imp (fun h e => by omega)
theorem VolsAre.mem {f : Nat → Option EN} {l : List EN} (h : VolsAre f l) (a : Nat) : a ∈ l.map (·.id) ↔ f a ≠ none := by
  rw [h.2 a]
  constructor
  · intro hm hn
    obtain ⟨e, he, rfl⟩ := List.mem_map.1 hm
    have := List.find?_eq_none.1 hn e he
    simp at this
  · intro hn
    obtain ⟨e, he⟩ := Option.ne_none_iff_exists'.1 hn
    have h1 := List.mem_of_find?_eq_some he
    have h2 := List.find?_some he
    exact List.mem_map.2 ⟨e, h1, by simpa using h2⟩
theorem vols_len {f : Nat → Option EN} {l : List EN} (hv : VolsAre f l) {m : Nat} (h : MapIs uk ev ukOk w m f) (ty : TypeId) :
    (Builtin.len_ #[77] ty #[.map (some m)]).run Tryz.prog w = .ok (.int .i64 (l.length : Int)) w := by
  have := h.len kkU32 (t := 77) (e := 50) Tryz.underlying77 ty (l.map (·.id)) hv.nodup (fun a => hv.mem a)
  rwa [List.length_map] at this
end
end Go.Proofs.YtajojhfialbfkaaGreatDoor
