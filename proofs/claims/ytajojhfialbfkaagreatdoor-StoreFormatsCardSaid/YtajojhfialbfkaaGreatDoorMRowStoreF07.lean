/- Layer 9: a volume in a table, until it is undone. -/
import Derived.Test.YtajojhfialbfkaaGreatDoorMRowStoreF06
namespace Go.Proofs.YtajojhfialbfkaaGreatDoor
open Go.RowKit
set_option maxRecDepth 100000

/-- An entry of the catalog. -/
structure EN where
  id : Nat
  parent : Nat
  only : Bool
  size : Nat
  root : Nat
  born : Nat
def zEN : EN := ⟨0, 0, false, 0, 0, 0⟩
def ev (E : EN) : Value := (.agg #[.int .u32 (E.id : Int), .int .u32 (E.parent : Int), .bool E.only, .int .i64 (E.size : Int), .int .i64 (E.root : Int), .int .u32 (E.born : Int)])
abbrev uk (a : Nat) : Value := .int .u32 (a : Int)
def ukOk (a : Nat) : Prop := a < 4294967296
theorem kkU32 : KeyKind Tryz.prog 47 uk ukOk where
  law := Go.Maps.int_keyed Tryz.underlying47
  key a ha := ⟨_, Go.Maps.keyOf_int_mk Tryz.underlying47 (by unfold ukOk at ha; have h1 : IntKind.u32.min = 0 := rfl; have h2 : IntKind.u32.max = 4294967295 := rfl; simp only [Lit.wf, h1, h2, Bool.and_eq_true, decide_eq_true_eq]; omega)⟩
  inj a b h := by injection h with _ h; omega

section
variable {w : World} {g : Nat} {lv : Value} {depth : Nat} {vals : List Value}

theorem five_boxes (w : World) (o1 o2 o3 o4 o5 : Obj) :
    (((((w.alloc o1).alloc o2).alloc o3).alloc o4).alloc o5).heap[w.heap.size]? = some o1 ∧ (((((w.alloc o1).alloc o2).alloc o3).alloc o4).alloc o5).heap[w.heap.size + 1]? = some o2 ∧
    (((((w.alloc o1).alloc o2).alloc o3).alloc o4).alloc o5).heap[w.heap.size + 1 + 1]? = some o3 ∧ (((((w.alloc o1).alloc o2).alloc o3).alloc o4).alloc o5).heap[w.heap.size + 1 + 1 + 1]? = some o4 ∧
    (((((w.alloc o1).alloc o2).alloc o3).alloc o4).alloc o5).heap[w.heap.size + 1 + 1 + 1 + 1]? = some o5 ∧
    (((((w.alloc o1).alloc o2).alloc o3).alloc o4).alloc o5).heap.size = w.heap.size + 1 + 1 + 1 + 1 + 1 ∧ Fr (fun _ => False) w (((((w.alloc o1).alloc o2).alloc o3).alloc o4).alloc o5) := by
  obtain ⟨h1, h2, h3, h4, h5, h6⟩ := four_boxes w o1 o2 o3 o4
  exact ⟨blk_alloc h1, blk_alloc h2, blk_alloc h3, blk_alloc h4, blk_new h5, size_alloc h5, h6.alloc _⟩

theorem u_put_vol (h : LogAt w g lv depth vals) (hd : 0 < depth) (hl : vals.length ≤ 100000) (m : Nat) (f : Nat → Option EN) (hm : MapIs uk ev ukOk w m f) (a : Nat) (c : EN) (ha : ukOk a) (hn : ¬ LogF g lv m) :
    Calls Tryz.prog 120 #[.pointer (some ⟨g, 0, none⟩), .map (some m), uk a, ev c] w fun e w' =>
      e = unit0 ∧ TabEnd w g lv depth vals 168 77 47 50 m (uk a) (ev ((f a).getD zEN)).cells (f a).isSome w' ∧ MapIs uk ev ukOk w' m (mput f a (some c)) := by
  have hz := fun (W : World) => (show (zeroValue 50).run Tryz.prog W = .ok (ev zEN) W from by kernel_rfl)
  have hr : ((f a).map ev).getD (ev zEN) = ev ((f a).getD zEN) := by cases f a <;> rfl
  obtain ⟨E, hE0⟩ : ∃ E, (f a).getD zEN = E := ⟨_, rfl⟩
  rw [hE0] at hr ⊢
  generalize hb : (f a).isSome = ok
  have hlk := fun (W : World) (hW : Fr (fun _ => False) w W) => (hm.fr hW (fun h => h)).look kkU32 (t := 77) (e := 50) Tryz.underlying77 (hz W) a ha true
  simp only [hr, hb, if_true] at hlk
  have HLk := Lib.hid hlk
  have H := Lib.hid h
  have HM := Lib.hid hm
  have HA := Lib.hid ha
  have HN := Lib.hid hn
  have HD := Lib.hid hd
  have HL := Lib.hid hl
  have hlw : ∀ (o1 o2 o3 : Obj), (Instr.lookup 77 (.map (some m)) (.int .u32 (a : Int)) true).run Tryz.prog (((w.alloc o1).alloc o2).alloc o3) = .ok (.tuple #[(.agg #[.int .u32 (E.id : Int), .int .u32 (E.parent : Int), .bool E.only, .int .i64 (E.size : Int), .int .i64 (E.root : Int), .int .u32 (E.born : Int)]), .bool ok]) (((w.alloc o1).alloc o2).alloc o3) := fun o1 o2 o3 => hlk _ ((((Fr.refl _ w).alloc _).alloc _).alloc _)
  clear hz hr hb hlk hE0 h hm ha hn hd hl
  unfold uk ev
  go_enter Tryz.func120, Tryz.ntmps120
  go_wp2_with fail
  obtain ⟨hx1, hx2, hx5, hx3, hx4, hz4, hF4⟩ := five_boxes w (Obj.cells #[.map (some m)] 77) (Obj.cells #[.int .u32 (a : Int)] 47) (Obj.cells #[.int .u32 (c.id : Int), .int .u32 (c.parent : Int), .bool c.only, .int .i64 (c.size : Int), .int .i64 (c.root : Int), .int .u32 (c.born : Int)] 50) (Obj.cells #[.int .u32 (E.id : Int), .int .u32 (E.parent : Int), .bool E.only, .int .i64 (E.size : Int), .int .i64 (E.root : Int), .int .u32 (E.born : Int)] 50) (Obj.cells #[.bool ok] 4)
  clear hlw
  generalize ((((w.alloc (Obj.cells #[.map (some m)] 77)).alloc (Obj.cells #[.int .u32 (a : Int)] 47)).alloc (Obj.cells #[.int .u32 (c.id : Int), .int .u32 (c.parent : Int), .bool c.only, .int .i64 (c.size : Int), .int .i64 (c.root : Int), .int .u32 (c.born : Int)] 50)).alloc (Obj.cells #[.int .u32 (E.id : Int), .int .u32 (E.parent : Int), .bool E.only, .int .i64 (E.size : Int), .int .i64 (E.root : Int), .int .u32 (E.born : Int)] 50)).alloc (Obj.cells #[.bool ok] 4) = w4 at *
  have hlt := H.out.lt
  have hml := HM.out.lt
  refine (log_back (H.out.fr hF4 (fun _ _ h => h)) HD.out (by have := HL.out; omega) 168 #[.pointer (some ⟨w.heap.size, 0, none⟩), .pointer (some ⟨w.heap.size + 1, 0, none⟩), .pointer (some ⟨w.heap.size + 1 + 1 + 1, 0, none⟩), .pointer (some ⟨w.heap.size + 1 + 1 + 1 + 1, 0, none⟩)]).mono ?_
  rintro e w5 ⟨rfl, lv', hL5, hF5, hlv⟩
  have hnk : ∀ k, w.heap.size ≤ k → k < w4.heap.size → ¬ LogF g lv k ∧ ¬ LogF g lv' k := by
    intro k h1 h2
    refine ⟨fun h => by have := hlt _ h; omega, ?_⟩
    rintro (h | h)
    · have := hlt g (.inl rfl); omega
    · rcases hlv _ h with h | h
      · have := hlt _ (.inr h); omega
      · omega
  have hy1 := hF5.blk hx1 (hnk _ (by omega) (by omega)).1
  have hy2 := hF5.blk hx2 (hnk _ (by omega) (by omega)).1
  have hy5 := hF5.blk hx5 (hnk _ (by omega) (by omega)).1
  have hy3 := hF5.blk hx3 (hnk _ (by omega) (by omega)).1
  have hy4 := hF5.blk hx4 (hnk _ (by omega) (by omega)).1
  have hm5 := (HM.out.fr hF4 (fun h => h)).fr hF5 HN.out
  have hnm : ¬ LogF g lv' m := by
    rintro (h | h)
    · exact HN.out (.inl h)
    · rcases hlv _ h with h | h
      · exact HN.out (.inr h)
      · omega
  obtain ⟨w6, hrun, hm6, hF6⟩ := hm5.put kkU32 (t := 77) (e := 50) Tryz.underlying77 a HA.out c
  have hc1 := cell_blk hy1
  have hc2 := cell_blk hy2
  have hc5 := cell_blk hy5
  have hE : TabEnd w g lv depth vals 168 77 47 50 m (.int .u32 (a : Int)) #[.int .u32 (E.id : Int), .int .u32 (E.parent : Int), .bool E.only, .int .i64 (E.size : Int), .int .i64 (E.root : Int), .int .u32 (E.born : Int)] ok w6 := by
    refine ⟨⟨lv', _, _, _, _, hL5.fr hF6 (fun k hk e => hnm (e ▸ hk)), ?_, by omega, by omega, by omega, by omega, (hnk _ (by omega) (by omega)).2, (hnk _ (by omega) (by omega)).2, (hnk _ (by omega) (by omega)).2, (hnk _ (by omega) (by omega)).2, hF6.blk hy1 (by omega), hF6.blk hy2 (by omega), hF6.blk hy3 (by omega), hF6.blk hy4 (by omega)⟩, ?_⟩
    · intro k hk
      rcases hlv k hk with h | h
      · exact .inl h
      · right; omega
    · exact ((hF4.mono (G := fun k => LogF g lv k ∨ k = m) (fun _ _ h => h.elim)).trans hF5 (fun k _ h => .inl h)).trans hF6 (fun k _ h => .inr h)
  have HE := Lib.hid hE
  have HM6 := Lib.hid hm6
  simp only [uk, ev] at hrun
  clear hx1 hx2 hx3 hx4 hx5 hy5 hz4 hF4 hL5 hF5 hlv hnk hy1 hy2 hy3 hy4 hm5 hnm hm6 hF6 hE hlt hml
  go_wp2_with fail
  go_end0
  exact ⟨rfl, HE.out, HM6.out⟩
theorem u_drop_vol (h : LogAt w g lv depth vals) (hd : 0 < depth) (hl : vals.length ≤ 100000) (m : Nat) (f : Nat → Option EN) (hm : MapIs uk ev ukOk w m f) (a : Nat) (ha : ukOk a) (hn : ¬ LogF g lv m) :
    Calls Tryz.prog 133 #[.pointer (some ⟨g, 0, none⟩), .map (some m) , uk a] w fun e w' =>
      e = unit0 ∧ TabEnd w g lv depth vals 176 77 47 50 m (uk a) (ev ((f a).getD zEN)).cells (f a).isSome w' ∧ MapIs uk ev ukOk w' m (mput f a none) := by
  have hz := fun (W : World) => (show (zeroValue 50).run Tryz.prog W = .ok (ev zEN) W from by kernel_rfl)
  have hr : ((f a).map ev).getD (ev zEN) = ev ((f a).getD zEN) := by cases f a <;> rfl
  obtain ⟨E, hE0⟩ : ∃ E, (f a).getD zEN = E := ⟨_, rfl⟩
  rw [hE0] at hr ⊢
  generalize hb : (f a).isSome = ok
  have hlk := fun (W : World) (hW : Fr (fun _ => False) w W) => (hm.fr hW (fun h => h)).look kkU32 (t := 77) (e := 50) Tryz.underlying77 (hz W) a ha true
  simp only [hr, hb, if_true] at hlk
  have HLk := Lib.hid hlk
  have H := Lib.hid h
  have HM := Lib.hid hm
  have HA := Lib.hid ha
  have HN := Lib.hid hn
  have HD := Lib.hid hd
  have HL := Lib.hid hl
  have hlw : ∀ (o1 o2 : Obj), (Instr.lookup 77 (.map (some m)) (.int .u32 (a : Int)) true).run Tryz.prog ((w.alloc o1).alloc o2) = .ok (.tuple #[(.agg #[.int .u32 (E.id : Int), .int .u32 (E.parent : Int), .bool E.only, .int .i64 (E.size : Int), .int .i64 (E.root : Int), .int .u32 (E.born : Int)]), .bool ok]) ((w.alloc o1).alloc o2) := fun o1 o2 => hlk _ (((Fr.refl _ w).alloc _).alloc _)
  clear hz hr hb hlk hE0 h hm ha hn hd hl
  unfold uk ev
  go_enter Tryz.func133, Tryz.ntmps133
  go_wp2_with fail
  obtain ⟨hx1, hx2, hx3, hx4, hz4, hF4⟩ := four_boxes w (Obj.cells #[.map (some m)] 77) (Obj.cells #[.int .u32 (a : Int)] 47) (Obj.cells #[.int .u32 (E.id : Int), .int .u32 (E.parent : Int), .bool E.only, .int .i64 (E.size : Int), .int .i64 (E.root : Int), .int .u32 (E.born : Int)] 50) (Obj.cells #[.bool ok] 4)
  clear hlw
  generalize (((w.alloc (Obj.cells #[.map (some m)] 77)).alloc (Obj.cells #[.int .u32 (a : Int)] 47)).alloc (Obj.cells #[.int .u32 (E.id : Int), .int .u32 (E.parent : Int), .bool E.only, .int .i64 (E.size : Int), .int .i64 (E.root : Int), .int .u32 (E.born : Int)] 50)).alloc (Obj.cells #[.bool ok] 4) = w4 at *
  have hlt := H.out.lt
  have hml := HM.out.lt
  refine (log_back (H.out.fr hF4 (fun _ _ h => h)) HD.out (by have := HL.out; omega) 176 #[.pointer (some ⟨w.heap.size, 0, none⟩), .pointer (some ⟨w.heap.size + 1, 0, none⟩), .pointer (some ⟨w.heap.size + 1 + 1, 0, none⟩), .pointer (some ⟨w.heap.size + 1 + 1 + 1, 0, none⟩)]).mono ?_
  rintro e w5 ⟨rfl, lv', hL5, hF5, hlv⟩
  have hnk : ∀ k, w.heap.size ≤ k → k < w4.heap.size → ¬ LogF g lv k ∧ ¬ LogF g lv' k := by
    intro k h1 h2
    refine ⟨fun h => by have := hlt _ h; omega, ?_⟩
    rintro (h | h)
    · have := hlt g (.inl rfl); omega
    · rcases hlv _ h with h | h
      · have := hlt _ (.inr h); omega
      · omega
  have hy1 := hF5.blk hx1 (hnk _ (by omega) (by omega)).1
  have hy2 := hF5.blk hx2 (hnk _ (by omega) (by omega)).1
  have hy3 := hF5.blk hx3 (hnk _ (by omega) (by omega)).1
  have hy4 := hF5.blk hx4 (hnk _ (by omega) (by omega)).1
  have hm5 := (HM.out.fr hF4 (fun h => h)).fr hF5 HN.out
  have hnm : ¬ LogF g lv' m := by
    rintro (h | h)
    · exact HN.out (.inl h)
    · rcases hlv _ h with h | h
      · exact HN.out (.inr h)
      · omega
  obtain ⟨w6, hrun, hm6, hF6⟩ := hm5.del kkU32 (t := 77) (e := 50) Tryz.underlying77 a HA.out
  have hc1 := cell_blk hy1
  have hc2 := cell_blk hy2
  have hE : TabEnd w g lv depth vals 176 77 47 50 m (.int .u32 (a : Int)) #[.int .u32 (E.id : Int), .int .u32 (E.parent : Int), .bool E.only, .int .i64 (E.size : Int), .int .i64 (E.root : Int), .int .u32 (E.born : Int)] ok w6 := by
    refine ⟨⟨lv', _, _, _, _, hL5.fr hF6 (fun k hk e => hnm (e ▸ hk)), ?_, by omega, by omega, by omega, by omega, (hnk _ (by omega) (by omega)).2, (hnk _ (by omega) (by omega)).2, (hnk _ (by omega) (by omega)).2, (hnk _ (by omega) (by omega)).2, hF6.blk hy1 (by omega), hF6.blk hy2 (by omega), hF6.blk hy3 (by omega), hF6.blk hy4 (by omega)⟩, ?_⟩
    · intro k hk
      rcases hlv k hk with h | h
      · exact .inl h
      · right; omega
    · exact ((hF4.mono (G := fun k => LogF g lv k ∨ k = m) (fun _ _ h => h.elim)).trans hF5 (fun k _ h => .inl h)).trans hF6 (fun k _ h => .inr h)
  have HE := Lib.hid hE
  have HM6 := Lib.hid hm6
  simp only [uk] at hrun
  clear hx1 hx2 hx3 hx4 hz4 hF4 hL5 hF5 hlv hnk hy1 hy2 hy3 hy4 hm5 hnm hm6 hF6 hE hlt hml
  go_wp2_with fail
  go_end0
  exact ⟨rfl, HE.out, HM6.out⟩

theorem restore_vol (m : Nat) (f : Nat → Option EN) (hm : MapIs uk ev ukOk w m f) (a : Nat) (ha : ukOk a) (o : Option EN) (ok : Bool) (hok : o.isSome = ok) :
    Calls Tryz.prog 169 #[.map (some m), uk a, ev (o.getD zEN), .bool ok] w fun e w' => e = unit0 ∧ MapIs uk ev ukOk w' m (mput f a o) ∧ Fr (fun k => k = m) w w' := by
  subst hok
  cases o with
  | none =>
    obtain ⟨w6, hrun, hm6, hF6⟩ := (hm.fr ((Fr.refl (fun _ => False) w).alloc (Obj.cells (ev zEN).cells 50)) (fun h => h)).del kkU32 (t := 77) (e := 50) Tryz.underlying77 a ha
    have HM6 := Lib.hid hm6
    have HF6 := Lib.hid (((Fr.refl (fun k => k = m) w).alloc (Obj.cells (ev zEN).cells 50)).trans hF6 (fun _ _ h => h))
    have e0 : ((0 : Nat) : Int) = 0 := rfl
    simp only [uk, ev, zEN, Value.cells, e0] at hrun ⊢
    clear e0
    clear hm hm6 hF6 ha
    simp only [Option.getD_none, Option.isSome_none]
    go_enter Tryz.func169, Tryz.ntmps169
    go_wp2_with fail
    refine bodyPost_ret (results_none rfl _ _ _) rfl ?_
    exact ⟨rfl, HM6.out, HF6.out⟩
  | some c =>
    obtain ⟨w6, hrun, hm6, hF6⟩ := (hm.fr ((Fr.refl (fun _ => False) w).alloc (Obj.cells (ev c).cells 50)) (fun h => h)).put kkU32 (t := 77) (e := 50) Tryz.underlying77 a ha c
    have HM6 := Lib.hid hm6
    have HF6 := Lib.hid (((Fr.refl (fun k => k = m) w).alloc (Obj.cells (ev c).cells 50)).trans hF6 (fun _ _ h => h))
    simp only [uk, ev, Value.cells] at hrun ⊢
    clear hm hm6 hF6 ha
    simp only [Option.getD_some, Option.isSome_some]
    go_enter Tryz.func169, Tryz.ntmps169
    go_wp2_with fail
    go_end0
    exact ⟨rfl, HM6.out, HF6.out⟩

theorem u_put_vol_back (x1 x2 x3 x4 m : Nat) (f : Nat → Option EN) (hm : MapIs uk ev ukOk w m f) (a : Nat) (ha : ukOk a) (o : Option EN)
    (h1 : w.heap[x1]? = some (.cells #[.map (some m)] 77 (0, 0))) (h2 : w.heap[x2]? = some (.cells (uk a).cells 47 (0, 0))) (h3 : w.heap[x3]? = some (.cells (ev (o.getD zEN)).cells 50 (0, 0))) (h4 : w.heap[x4]? = some (.cells #[.bool o.isSome] 4 (0, 0))) :
    Calls Tryz.prog 168 (#[] ++ #[.pointer (some ⟨x1, 0, none⟩), .pointer (some ⟨x2, 0, none⟩), .pointer (some ⟨x3, 0, none⟩), .pointer (some ⟨x4, 0, none⟩)]) w fun e w' => e = unit0 ∧ MapIs uk ev ukOk w' m (mput f a o) ∧ Fr (fun k => k = m) w w' := by
  have hc1 := cell_blk h1
  have hc2 : ∀ i, w.cell? ⟨x2, i, none⟩ = #[Value.int .u32 (a : Int)][i]? := cell_blk h2
  have hc3 := cell_blk h3
  have hc4 := cell_blk h4
  have hr := restore_vol m f hm a ha o o.isSome rfl
  generalize o.getD zEN = E at *
  replace hc3 : ∀ i, w.cell? ⟨x3, i, none⟩ = (#[.int .u32 (E.id : Int), .int .u32 (E.parent : Int), .bool E.only, .int .i64 (E.size : Int), .int .i64 (E.root : Int), .int .u32 (E.born : Int)] : Array Value)[i]? := hc3
  simp only [uk, ev] at hr
  have HR := Lib.hid hr
  clear h1 h2 h3 h4 hm ha hr
  simp only [List.nil_append, List.append_toArray]
  go_enter Tryz.func168, Tryz.ntmps168
  go_wp2_with fail
  refine HR.out.mono ?_
  rintro e w' ⟨rfl, h1, h2⟩
  have H1 := Lib.hid (And.intro h1 h2)
  clear h1 h2
  go_wp2_with fail
  go_end0
  exact ⟨rfl, H1.out.1, H1.out.2⟩

theorem u_drop_vol_back (x1 x2 x3 x4 m : Nat) (f : Nat → Option EN) (hm : MapIs uk ev ukOk w m f) (a : Nat) (ha : ukOk a) (o : Option EN)
    (h1 : w.heap[x1]? = some (.cells #[.map (some m)] 77 (0, 0))) (h2 : w.heap[x2]? = some (.cells (uk a).cells 47 (0, 0))) (h3 : w.heap[x3]? = some (.cells (ev (o.getD zEN)).cells 50 (0, 0))) (h4 : w.heap[x4]? = some (.cells #[.bool o.isSome] 4 (0, 0))) :
    Calls Tryz.prog 176 (#[] ++ #[.pointer (some ⟨x1, 0, none⟩), .pointer (some ⟨x2, 0, none⟩), .pointer (some ⟨x3, 0, none⟩), .pointer (some ⟨x4, 0, none⟩)]) w fun e w' => e = unit0 ∧ MapIs uk ev ukOk w' m (mput f a o) ∧ Fr (fun k => k = m) w w' := by
  have hc1 := cell_blk h1
  have hc2 : ∀ i, w.cell? ⟨x2, i, none⟩ = #[Value.int .u32 (a : Int)][i]? := cell_blk h2
  have hc3 := cell_blk h3
  have hc4 := cell_blk h4
  have hr := restore_vol m f hm a ha o o.isSome rfl
  generalize o.getD zEN = E at *
  replace hc3 : ∀ i, w.cell? ⟨x3, i, none⟩ = (#[.int .u32 (E.id : Int), .int .u32 (E.parent : Int), .bool E.only, .int .i64 (E.size : Int), .int .i64 (E.root : Int), .int .u32 (E.born : Int)] : Array Value)[i]? := hc3
  simp only [uk, ev] at hr
  have HR := Lib.hid hr
  clear h1 h2 h3 h4 hm ha hr
  simp only [List.nil_append, List.append_toArray]
  go_enter Tryz.func176, Tryz.ntmps176
  go_wp2_with fail
  refine HR.out.mono ?_
  rintro e w' ⟨rfl, h1, h2⟩
  have H1 := Lib.hid (And.intro h1 h2)
  clear h1 h2
  go_wp2_with fail
  go_end0
  exact ⟨rfl, H1.out.1, H1.out.2⟩

end
end Go.Proofs.YtajojhfialbfkaaGreatDoor
/- Layer 10: the heap: what a world holds of it. -/
namespace Go.Proofs.YtajojhfialbfkaaGreatDoor
open Go.RowKit
set_option maxRecDepth 100000

/-- The blocks of a heap that stay where they are. -/
structure HB where
  h : Nat
  d : Nat
  db : Nat
  dc : Nat
  m : Nat
  mb : Nat
  mc : Nat
  rf : Nat
  g : Nat

/-- A heap: its disk, its grants, who is wanted by how many, who is young, who is gone, how many are kept. -/
structure HS where
  D : DS
  G : GS
  refs : Nat → Option Nat
  young : Nat → Option Nat
  gone : List Nat
  keep : Nat

def HB.dsv (B : HB) (S : HS) : Value := .slice (some ⟨B.db, 0, none⟩) S.D.l.length B.dc
def HB.msv (B : HB) (S : HS) : Value := .slice (some ⟨B.mb, 0, none⟩) S.G.l.length B.mc

/-- All blocks that calls turn. -/
def HF (B : HB) (yg : Nat) (lv : Value) : Nat → Prop := fun k => k ∈ [B.h, B.d, B.db, B.m, B.mb, B.rf, yg, B.g] ∨ lv.ownBlock = some k

/-- The types of the boxes of other layers' ways back. -/
inductive ExtTy where
  | u32
  | pu32
  | mvol
  | ent
  | bool
  | msum
  | sum
  | int
def ExtTy.ty : ExtTy → TypeId
  | .u32 => 47
  | .pu32 => 232
  | .mvol => 77
  | .ent => 50
  | .bool => 4
  | .msum => 206
  | .sum => 44
  | .int => 3

/-- A way back. -/
inductive Step where
  | give (x y at_ : Nat)
  | back (x y at_ : Nat)
  | keep (x y was : Nat)
  | gone (x y : Nat) (a : Option Addr) (c : Nat) (l : List Nat)
  | tab (drop young : Bool) (x1 x2 x3 x4 yg key : Nat) (was : Option Nat)
  | ext (f : FuncId) (cap : Array Value) (bx : List (Nat × Array Value × ExtTy))

def Step.val : Step → Value
  | .give x y _ => cl 276 #[.pointer (some ⟨x, 0, none⟩), .pointer (some ⟨y, 0, none⟩)]
  | .back x y _ => cl 243 #[.pointer (some ⟨x, 0, none⟩), .pointer (some ⟨y, 0, none⟩)]
  | .keep x y _ => cl 208 #[.pointer (some ⟨x, 0, none⟩), .pointer (some ⟨y, 0, none⟩)]
  | .gone x y _ _ _ => cl 280 #[.pointer (some ⟨x, 0, none⟩), .pointer (some ⟨y, 0, none⟩)]
  | .tab true _ x1 x2 x3 x4 _ _ _ => cl 279 #[.pointer (some ⟨x1, 0, none⟩), .pointer (some ⟨x2, 0, none⟩), .pointer (some ⟨x3, 0, none⟩), .pointer (some ⟨x4, 0, none⟩)]
  | .tab false _ x1 x2 x3 x4 _ _ _ => cl 277 #[.pointer (some ⟨x1, 0, none⟩), .pointer (some ⟨x2, 0, none⟩), .pointer (some ⟨x3, 0, none⟩), .pointer (some ⟨x4, 0, none⟩)]
  | .ext f cap _ => cl f cap

/-- Its boxes: what stands in them. -/
def Step.boxes (B : HB) (S : Step) : List (Nat × Obj) := match S with
  | .give x y a => [(x, .cells #[.pointer (some ⟨B.h, 0, none⟩)] 75 (0, 0)), (y, .cells #[.int .i64 (a : Int)] 3 (0, 0))]
  | .back x y a => [(x, .cells #[.pointer (some ⟨B.h, 0, none⟩)] 75 (0, 0)), (y, .cells #[.int .i64 (a : Int)] 3 (0, 0))]
  | .keep x y was => [(x, .cells #[.int .i64 (was : Int)] 3 (0, 0)), (y, .cells #[.pointer (some ⟨B.h, 6, none⟩)] 234 (0, 0))]
  | .gone x y a c l => [(x, .cells #[.slice a l.length c] 58 (0, 0)), (y, .cells #[.pointer (some ⟨B.h, 5, none⟩)] 305 (0, 0))]
  | .tab _ young x1 x2 x3 x4 yg key was => [(x1, .cells #[.map (some (if young then yg else B.rf))] 124 (0, 0)), (x2, .cells #[.int .i64 (key : Int)] 3 (0, 0)),
      (x3, .cells #[(was.map ik).getD (.int .i64 0)] 3 (0, 0)), (x4, .cells #[.bool was.isSome] 4 (0, 0))]
  | .ext _ _ bx => bx.map fun q => (q.1, .cells q.2.1 q.2.2.ty (0, 0))

/-- What going back makes of a heap. -/
def Step.undo : Step → HS → HS
  | .give _ _ a, S => { S with G := S.G.move a 1 0 }
  | .back _ _ a, S => { S with G := S.G.move a 2 1 }
  | .keep _ _ was, S => { S with keep := was }
  | .gone _ _ _ _ l, S => { S with gone := l }
  | .tab _ true _ _ _ _ _ key was, S => { S with young := mput S.young key was }
  | .tab _ false _ _ _ _ _ key was, S => { S with refs := mput S.refs key was }
  | .ext _ _ _, S => S

/-- A step as a world holds it. -/
structure StepIs (w : World) (B : HB) (yg : Nat) (lv : Value) (s : Step) : Prop where
  box : ∀ p ∈ s.boxes B, w.heap[p.1]? = some p.2 ∧ ¬ HF B yg lv p.1
  gone : ∀ x y a c l, s = .gone x y a c l → w.ownsRow 0 3 1 (.slice a l.length c) l.length (icells l) ∧ ∀ k, (Value.slice a l.length c).ownBlock = some k → ¬ HF B yg lv k
  tab : ∀ d x1 x2 x3 x4 y key was, s = .tab d true x1 x2 x3 x4 y key was → y = yg

/-- A step's own blocks. -/
def Step.owns (B : HB) (s : Step) (k : Nat) : Prop := (∃ p ∈ s.boxes B, p.1 = k) ∨ ∃ x y a c l, s = .gone x y a c l ∧ (Value.slice a l.length c).ownBlock = some k
/-- All blocks of a heap: those that calls turn, the list of those gone, the ways back. -/
def HO (B : HB) (yg : Nat) (gv lv : Value) (steps : List Step) (k : Nat) : Prop := HF B yg lv k ∨ gv.ownBlock = some k ∨ ∃ s ∈ steps, s.owns B k
/-- None comes to them but new ones. -/
def HGrew (w : World) (B : HB) (yg : Nat) (gv lv : Value) (steps : List Step) (gv' lv' : Value) (steps' : List Step) : Prop :=
  ∀ k, HO B yg gv' lv' steps' k → HO B yg gv lv steps k ∨ w.heap.size ≤ k

theorem HGrew.step {w : World} {B : HB} {yg : Nat} {gv lv lv' : Value} {steps : List Step} {new : Step} (hlv : ∀ k, lv'.ownBlock = some k → lv.ownBlock = some k ∨ w.heap.size ≤ k) (hb : ∀ k, new.owns B k → w.heap.size ≤ k) :
    HGrew w B yg gv lv steps gv lv' (steps ++ [new]) := by
  rintro k (h | h | ⟨s, hs, ho⟩)
  · rcases h with h | h
    · exact .inl (.inl (.inl h))
    · exact (hlv k h).imp (fun h => .inl (.inr h)) (fun h => h)
  · exact .inl (.inr (.inl h))
  · rcases List.mem_append.1 hs with hs | hs
    · exact .inl (.inr (.inr ⟨s, hs, ho⟩))
    · rw [List.mem_singleton.1 hs] at ho
      exact .inr (hb k ho)
theorem owns_two {B : HB} {new : Step} {n x y : Nat} {o1 o2 : Obj} (he : new.boxes B = [(x, o1), (y, o2)]) (hg : ∀ x y a c l, new ≠ .gone x y a c l) (hx : n ≤ x) (hy : n ≤ y) : ∀ k, new.owns B k → n ≤ k := by
  rintro k (⟨p, hp, rfl⟩ | ⟨a, b, c, d, l, e, _⟩)
  · rw [he] at hp
    simp only [List.mem_cons, List.not_mem_nil, or_false] at hp
    rcases hp with rfl | rfl
    · exact hx
    · exact hy
  · exact absurd e (hg _ _ _ _ _)
theorem owns_four {B : HB} {new : Step} {n x1 x2 x3 x4 : Nat} {o1 o2 o3 o4 : Obj} (he : new.boxes B = [(x1, o1), (x2, o2), (x3, o3), (x4, o4)]) (hg : ∀ x y a c l, new ≠ .gone x y a c l) (h1 : n ≤ x1) (h2 : n ≤ x2) (h3 : n ≤ x3) (h4 : n ≤ x4) : ∀ k, new.owns B k → n ≤ k := by
  rintro k (⟨p, hp, rfl⟩ | ⟨a, b, c, d, l, e, _⟩)
  · rw [he] at hp
    simp only [List.mem_cons, List.not_mem_nil, or_false] at hp
    rcases hp with rfl | rfl | rfl | rfl
    · exact h1
    · exact h2
    · exact h3
    · exact h4
  · exact absurd e (hg _ _ _ _ _)

/-- The world w holds the heap S. -/
structure HW (w : World) (B : HB) (S : HS) (yg : Nat) (gv lv : Value) (depth : Nat) (steps : List Step) : Prop where
  hh : w.heap[B.h]? = some (.cells #[.pointer (some ⟨B.d, 0, none⟩), .pointer (some ⟨B.g, 0, none⟩), .pointer (some ⟨B.m, 0, none⟩), .map (some B.rf), .map (some yg), gv, .int .i64 (S.keep : Int)] 126 (0, 0))
  disk : DiskAt w B.d (B.dsv S) S.D
  gr : GrAt w B.m (B.msv S) S.G
  refs : MapIs ik ik ikOk w B.rf S.refs
  young : MapIs ik ik ikOk w yg S.young
  gone : w.ownsRow 0 3 1 gv S.gone.length (icells S.gone)
  log : LogAt w B.g lv depth (steps.map Step.val)
  apart : [B.h, B.d, B.db, B.m, B.mb, B.rf, yg, B.g].Nodup
  lapart : ∀ k, lv.ownBlock = some k → k ∉ [B.h, B.d, B.db, B.m, B.mb, B.rf, yg, B.g]
  gapart : ∀ k, gv.ownBlock = some k → ¬ HF B yg lv k
  steps : ∀ s ∈ steps, StepIs w B yg lv s

section
variable {w w' : World} {B : HB} {S : HS} {yg : Nat} {gv lv : Value} {depth : Nat} {steps : List Step}

theorem HW.lt (h : HW w B S yg gv lv depth steps) : ∀ k, HF B yg lv k → k < w.heap.size := by
  rintro k (hk | hk)
  · simp only [List.mem_cons, List.not_mem_nil, or_false] at hk
    rcases hk with rfl | rfl | rfl | rfl | rfl | rfl | rfl | rfl
    · exact lt_of_blk h.hh
    · exact lt_of_blk h.disk.hd
    · exact h.disk.lt _ (.inr rfl)
    · exact lt_of_blk h.gr.hm
    · exact h.gr.lt _ (.inr rfl)
    · exact h.refs.lt
    · exact h.young.lt
    · exact lt_of_blk h.log.hg
  · exact h.log.lt k (.inr hk)

/-- What lies elsewhere is turned: the heap stays. -/
theorem HW.fr {F : Nat → Prop} (h : HW w B S yg gv lv depth steps) (hf : Fr F w w') (hn : ∀ k, k < w.heap.size → F k → False) : HW w' B S yg gv lv depth steps := by
  have hf' : Fr (fun _ => False) w w' := hf.mono (fun k hk h => hn k hk h)
  exact ⟨hf'.blk h.hh (fun h => h), h.disk.fr hf' (fun _ _ h => h), h.gr.fr hf' (fun _ _ h => h), h.refs.fr hf' (fun h => h), h.young.fr hf' (fun h => h), ownsRow_fr h.gone hf' (fun _ _ h => h), h.log.fr hf' (fun _ _ h => h), h.apart, h.lapart, h.gapart,
    fun s hs => ⟨fun p hp => ⟨hf'.blk ((h.steps s hs).box p hp).1 (fun h => h), ((h.steps s hs).box p hp).2⟩, fun x y a c l e => ⟨ownsRow_fr ((h.steps s hs).gone x y a c l e).1 hf' (fun _ _ h => h), ((h.steps s hs).gone x y a c l e).2⟩, (h.steps s hs).tab⟩⟩

theorem heap_free (h : HW w B S yg gv lv depth steps) :
    Calls Tryz.prog 21 #[.pointer (some ⟨B.h, 0, none⟩)] w fun e w' => e = .returned (.int .i64 (S.G.l.count 0 : Nat)) ∧ w = w' := by
  have hc := cell_blk h.hh
  have HG := Lib.hid (gr_free h.gr)
  clear h
  go_enter Tryz.func21, Tryz.ntmps21
  go_wp2_with fail
  refine HG.out.mono ?_
  rintro e w' ⟨rfl, rfl⟩
  go_wp2_with fail
  go_ret
  exact ⟨rfl, rfl⟩

theorem HW.lvlt (h : HW w B S yg gv lv depth steps) {k : Nat} (hk : k ∈ [B.h, B.d, B.db, B.m, B.mb, B.rf, yg, B.g]) : k < w.heap.size := h.lt k (.inl hk)

/-- Blocks of the heap are turned, the log's row is another: what is frozen stays. -/
theorem HW.next {F : Nat → Prop} {lv' : Value} (h : HW w B S yg gv lv depth steps) (hF : Fr F w w') (hsub : ∀ k, F k → HF B yg lv k) (hlv : ∀ k, lv'.ownBlock = some k → lv.ownBlock = some k ∨ w.heap.size ≤ k) :
    (∀ s ∈ steps, StepIs w' B yg lv' s) ∧ (∀ k, gv.ownBlock = some k → ¬ HF B yg lv' k) ∧ (∀ k, lv'.ownBlock = some k → k ∉ [B.h, B.d, B.db, B.m, B.mb, B.rf, yg, B.g]) ∧ w'.ownsRow 0 3 1 gv S.gone.length (icells S.gone) := by
  have hnew : ∀ k, k < w.heap.size → ¬ HF B yg lv k → ¬ HF B yg lv' k := by
    rintro k hk hn (h1 | h1)
    · exact hn (.inl h1)
    · rcases hlv k h1 with h2 | h2
      · exact hn (.inr h2)
      · omega
  refine ⟨fun s hs => ?_, fun k hk => hnew k (h.gone.lt k hk).2 (h.gapart k hk), fun k hk hm => ?_, ownsRow_fr h.gone hF (fun k hk f => h.gapart k hk (hsub k f))⟩
  · have hb := h.steps s hs
    refine ⟨fun p hp => ?_, fun x y a c l e => ?_, hb.tab⟩
    · obtain ⟨h1, h2⟩ := hb.box p hp
      exact ⟨hF.blk h1 (fun f => h2 (hsub _ f)), hnew _ (lt_of_blk h1) h2⟩
    · obtain ⟨h1, h2⟩ := hb.gone x y a c l e
      exact ⟨ownsRow_fr h1 hF (fun k hk f => h2 k hk (hsub k f)), fun k hk => hnew k (h1.lt k hk).2 (h2 k hk)⟩
  · rcases hlv k hk with h1 | h1
    · exact h.lapart k h1 hm
    · have := h.lvlt hm; omega

theorem HW.logF (_h : HW w B S yg gv lv depth steps) {k : Nat} (hk : LogF B.g lv k) : HF B yg lv k := by
  rcases hk with rfl | hk
  · exact .inl (by simp)
  · exact .inr hk

theorem HW.ne_log (h : HW w B S yg gv lv depth steps) {k : Nat} (hk : k ∈ [B.h, B.d, B.db, B.m, B.mb, B.rf, yg]) : ¬ LogF B.g lv k := by
  have ha : ([B.h, B.d, B.db, B.m, B.mb, B.rf, yg] ++ [B.g]).Nodup := h.apart
  rintro (rfl | hl)
  · exact (List.nodup_append.1 ha).2.2 _ hk _ (List.mem_singleton_self _) rfl
  · exact h.lapart k hl (List.mem_append_left [B.g] hk)

/-- But for the heap's own block and the log. -/
theorem HW.ne_h (h : HW w B S yg gv lv depth steps) {k : Nat} (hk : k ∈ [B.d, B.db, B.m, B.mb, B.rf, yg]) : ¬ (LogF B.g lv k ∨ k = B.h) := by
  rintro (h1 | rfl)
  · exact h.ne_log (List.mem_cons_of_mem _ hk) h1
  · exact (List.nodup_cons.1 h.apart).1 (List.mem_append_left [B.g] hk)

set_option maxHeartbeats 1000000 in
theorem heap_keep (h : HW w B S yg gv lv depth steps) (hd : 0 < depth) (hl : steps.length ≤ 100000) (n : Nat) (hn : n ≤ 100000) :
    Calls Tryz.prog 118 #[.pointer (some ⟨B.h, 0, none⟩), .int .i64 (n : Int)] w fun e w' =>
      e = unit0 ∧ (∃ lv' x y, HW w' B { S with keep := n } yg gv lv' depth (steps ++ [.keep x y S.keep]) ∧ (∀ k, lv'.ownBlock = some k → lv.ownBlock = some k ∨ w.heap.size ≤ k) ∧ HGrew w B yg gv lv steps gv lv' (steps ++ [.keep x y S.keep])) ∧ Fr (HF B yg lv) w w' := by
  have hc := cell_blk h.hh
  have hset := u_set_int (w := w.drew) (b := B.h) (i := 6) (now := (n : Int)) (was := (S.keep : Int)) ⟨h.log.hg, h.log.row⟩ hd (by rw [List.length_map]; exact hl) _ _ h.hh (by rfl) (h.ne_log (by simp))
  have hmax : max (n : Int) 0 = (n : Int) := by omega
  have H := Lib.hid h
  have HS := Lib.hid hset
  clear h hset hd hl hn
  obtain ⟨ga, gn, gc, rfl, _, _⟩ : ∃ ga gn gc, gv = .slice ga gn gc ∧ True ∧ True := by
    obtain ⟨ao, cap, e, _, _⟩ := ownsRow_form H.out.gone
    exact ⟨ao, _, cap, e, trivial, trivial⟩
  go_enter Tryz.func118, Tryz.ntmps118
  go_wp2_with fail
  refine wp_region_perm 9 (fun w' => ∀ i, w'.cell? ⟨B.h, i, none⟩ = #[.pointer (some ⟨B.d, 0, none⟩), .pointer (some ⟨B.g, 0, none⟩), .pointer (some ⟨B.m, 0, none⟩), .map (some B.rf), .map (some yg), .slice ga gn gc, .int .i64 (S.keep : Int)][i]?) [(0, true), (1, true), (2, true), (3, true), (4, true), (5, true), (6, true), (7, true), (8, true)] (by kernel_rfl) (by kernel_rfl) ?_ (by intro c a d v w h; cases d <;> exact h) ?_
  · exact hc
  simp only [pickOps, List.getElem?_cons_succ, List.getElem?_cons_zero, List.map_cons, List.map_nil, List.drop_succ_cons, List.drop_zero]
  repeat ((with_reducible refine wpMix_read ?_ (fun K hK => ?_)); (focus rfl); apply Exists.intro; refine ⟨fun w' hS => ?_, ?_⟩; (focus (try dsimp only at hS; go_simp; try rfl)); go_simp; refine hK _ ?_; clear hK K)
  refine wpMix_nil ?_
  go_wp2_with fail
  refine HS.out.mono ?_
  rintro e w' ⟨rfl, hE⟩
  obtain ⟨⟨lv', x, y, hL, hlv, hx1, hy1, hx2, hy2, hx3, hy3⟩, hb, hF⟩ := hE
  have h := H.out
  have hsub : ∀ k, (LogF B.g lv k ∨ k = B.h) → HF B yg lv k := by
    rintro k (hk | rfl)
    · exact h.logF hk
    · exact .inl (by simp)
  have hF0 : Fr (fun k => LogF B.g lv k ∨ k = B.h) w w' := ((Fr.refl (fun k => LogF B.g lv k ∨ k = B.h) w).drew).trans hF (fun _ _ h => h)
  obtain ⟨n1, n2, n3, n4⟩ := h.next hF0 hsub hlv
  have ha := h.apart
  have hav : ∀ k ∈ [B.d, B.db, B.m, B.mb, B.rf, yg], ¬ (LogF B.g lv k ∨ k = B.h) := fun k hk => h.ne_h hk
  have hnew : ∀ k, w.heap.size ≤ k → ¬ HF B yg lv' k ∨ LogF B.g lv' k := by
    intro k hk
    by_cases h1 : LogF B.g lv' k
    · exact .inr h1
    · left
      rintro (h2 | h2)
      · have := h.lvlt h2; omega
      · exact h1 (.inr h2)
  have HE := Lib.hid (show HW w' B { S with keep := n } yg (.slice ga gn gc) lv' depth (steps ++ [.keep x y S.keep]) from by
    refine ⟨?_, ?_, ?_, ?_, ?_, n4, ?_, ha, n3, n2, ?_⟩
    · simpa only [List.setIfInBounds_toArray, List.set_cons_zero, List.set_cons_succ] using hb
    · exact h.disk.fr hF0 (by rintro k (rfl | hk); exact hav _ (by simp); injection hk with hk; subst hk; exact hav _ (by simp))
    · exact h.gr.fr hF0 (by rintro k (rfl | hk); exact hav _ (by simp); injection hk with hk; subst hk; exact hav _ (by simp))
    · exact h.refs.fr hF0 (hav _ (by simp))
    · exact h.young.fr hF0 (hav _ (by simp))
    · rw [List.map_append]; exact hL
    · intro s hs
      rcases List.mem_append.1 hs with hs | hs
      · exact n1 s hs
      · have hs := List.mem_singleton.1 hs
        subst hs
        refine ⟨fun p hp => ?_, fun _ _ _ _ _ e => (by cases e), fun _ _ _ _ _ _ _ _ e => (by cases e)⟩
        simp only [Step.boxes, List.mem_cons, List.not_mem_nil, or_false] at hp
        rcases hp with rfl | rfl
        · exact ⟨hx3, (hnew x hx1).resolve_right hx2⟩
        · exact ⟨hy3, (hnew y hy1).resolve_right hy2⟩)
  have HF0 := Lib.hid (hF0.mono (fun k _ hk => hsub k hk))
  have HV := Lib.hid (And.intro hlv (HGrew.step (w := w) (B := B) (yg := yg) (gv := .slice ga gn gc) (steps := steps) (new := .keep x y S.keep) hlv (owns_two rfl (fun _ _ _ _ _ e => by cases e) hx1 hy1)))
  clear hL hlv hx1 hy1 hx2 hy2 hx3 hy3 hb hF hF0 h hsub n1 n2 n3 n4 ha hav hnew
  go_wp2_with fail
  go_end0
  exact ⟨rfl, ⟨lv', x, y, HE.out, HV.out⟩, HF0.out⟩
end
end Go.Proofs.YtajojhfialbfkaaGreatDoor
/- Layer 10: the heap: its tables, turned until it is undone. -/
namespace Go.Proofs.YtajojhfialbfkaaGreatDoor
open Go.RowKit
set_option maxRecDepth 100000

section
variable {w w' : World} {B : HB} {S : HS} {yg : Nat} {gv lv : Value} {depth : Nat} {steps : List Step}

theorem HW.ne (h : HW w B S yg gv lv depth steps) (i j : Nat) (hi : i < 8) (hj : j < 8) (hij : i ≠ j) : [B.h, B.d, B.db, B.m, B.mb, B.rf, yg, B.g][i] ≠ [B.h, B.d, B.db, B.m, B.mb, B.rf, yg, B.g][j] := by
  have hp := List.pairwise_iff_getElem.1 h.apart
  rcases Nat.lt_or_gt_of_ne hij with hlt | hlt
  · exact hp i j hi hj hlt
  · exact fun e => hp j i hj hi hlt e.symm

set_option maxHeartbeats 1000000 in
theorem hw_put_refs (h : HW w B S yg gv lv depth steps) (hd : 0 < depth) (hl : steps.length ≤ 100000) (a : Nat) (c : Nat) (ha : ikOk a) :
    Calls Tryz.prog 239 #[.pointer (some ⟨B.g, 0, none⟩), .map (some B.rf), ik a, ik c] w fun e w' =>
      e = unit0 ∧ (∃ lv' x1 x2 x3 x4, HW w' B { S with refs := mput S.refs a (some c) } yg gv lv' depth (steps ++ [.tab false false x1 x2 x3 x4 yg a (S.refs a)]) ∧ (∀ k, lv'.ownBlock = some k → lv.ownBlock = some k ∨ w.heap.size ≤ k) ∧ HGrew w B yg gv lv steps gv lv' (steps ++ [.tab false false x1 x2 x3 x4 yg a (S.refs a)])) ∧ Fr (HF B yg lv) w w' := by
  refine (u_put_int h.log hd (by rw [List.length_map]; exact hl) B.rf _ h.refs a c ha (h.ne_log (by simp))).mono ?_
  rintro e w' ⟨rfl, ⟨⟨lv', x1, x2, x3, x4, hL, hlv, hx1, hx2, hx3, hx4, hn1, hn2, hn3, hn4, hb1, hb2, hb3, hb4⟩, hF⟩, hm⟩
  have hsub : ∀ k, (LogF B.g lv k ∨ k = B.rf) → HF B yg lv k := by
    rintro k (hk | rfl)
    · exact h.logF hk
    · exact .inl (by simp)
  obtain ⟨n1, n2, n3, n4⟩ := h.next hF hsub hlv
  have a0 : ¬ (LogF B.g lv B.h ∨ B.h = B.rf) := by
    rintro (h1 | h1)
    · exact h.ne_log (by simp) h1
    · exact h.ne 0 5 (by decide) (by decide) (by decide) h1
  have a1 : ¬ (LogF B.g lv B.d ∨ B.d = B.rf) := by
    rintro (h1 | h1)
    · exact h.ne_log (by simp) h1
    · exact h.ne 1 5 (by decide) (by decide) (by decide) h1
  have a2 : ¬ (LogF B.g lv B.db ∨ B.db = B.rf) := by
    rintro (h1 | h1)
    · exact h.ne_log (by simp) h1
    · exact h.ne 2 5 (by decide) (by decide) (by decide) h1
  have a3 : ¬ (LogF B.g lv B.m ∨ B.m = B.rf) := by
    rintro (h1 | h1)
    · exact h.ne_log (by simp) h1
    · exact h.ne 3 5 (by decide) (by decide) (by decide) h1
  have a4 : ¬ (LogF B.g lv B.mb ∨ B.mb = B.rf) := by
    rintro (h1 | h1)
    · exact h.ne_log (by simp) h1
    · exact h.ne 4 5 (by decide) (by decide) (by decide) h1
  have a6 : ¬ (LogF B.g lv yg ∨ yg = B.rf) := by
    rintro (h1 | h1)
    · exact h.ne_log (by simp) h1
    · exact h.ne 6 5 (by decide) (by decide) (by decide) h1
  have hnew : ∀ k, w.heap.size ≤ k → ¬ LogF B.g lv' k → ¬ HF B yg lv' k := by
    intro k hk h1
    rintro (h2 | h2)
    · have := h.lvlt h2; omega
    · exact h1 (.inr h2)
  refine ⟨rfl, ⟨lv', x1, x2, x3, x4, ⟨hF.blk h.hh a0, ?_, ?_, hm, h.young.fr hF a6, n4, ?_, h.apart, n3, n2, ?_⟩, hlv, HGrew.step hlv (owns_four rfl (fun _ _ _ _ _ e => by cases e) hx1 hx2 hx3 hx4)⟩, hF.mono (fun k _ hk => hsub k hk)⟩
  · exact h.disk.fr hF (by rintro k (rfl | hk); exact a1; injection hk with hk; subst hk; exact a2)
  · exact h.gr.fr hF (by rintro k (rfl | hk); exact a3; injection hk with hk; subst hk; exact a4)
  · rw [List.map_append]; exact hL
  · intro s hs
    rcases List.mem_append.1 hs with hs | hs
    · exact n1 s hs
    · have hs := List.mem_singleton.1 hs
      subst hs
      refine ⟨fun p hp => ?_, fun _ _ _ _ _ e => (by cases e), fun _ _ _ _ _ _ _ _ e => (by cases e; try rfl)⟩
      simp only [Step.boxes, List.mem_cons, List.not_mem_nil, or_false] at hp
      rcases hp with rfl | rfl | rfl | rfl
      · exact ⟨hb1, hnew _ hx1 hn1⟩
      · exact ⟨hb2, hnew _ hx2 hn2⟩
      · exact ⟨hb3, hnew _ hx3 hn3⟩
      · exact ⟨hb4, hnew _ hx4 hn4⟩

set_option maxHeartbeats 1000000 in
theorem hw_drop_refs (h : HW w B S yg gv lv depth steps) (hd : 0 < depth) (hl : steps.length ≤ 100000) (a : Nat) (ha : ikOk a) :
    Calls Tryz.prog 241 #[.pointer (some ⟨B.g, 0, none⟩), .map (some B.rf), ik a] w fun e w' =>
      e = unit0 ∧ (∃ lv' x1 x2 x3 x4, HW w' B { S with refs := mput S.refs a none } yg gv lv' depth (steps ++ [.tab true false x1 x2 x3 x4 yg a (S.refs a)]) ∧ (∀ k, lv'.ownBlock = some k → lv.ownBlock = some k ∨ w.heap.size ≤ k) ∧ HGrew w B yg gv lv steps gv lv' (steps ++ [.tab true false x1 x2 x3 x4 yg a (S.refs a)])) ∧ Fr (HF B yg lv) w w' := by
  refine (u_drop_int h.log hd (by rw [List.length_map]; exact hl) B.rf _ h.refs a ha (h.ne_log (by simp))).mono ?_
  rintro e w' ⟨rfl, ⟨⟨lv', x1, x2, x3, x4, hL, hlv, hx1, hx2, hx3, hx4, hn1, hn2, hn3, hn4, hb1, hb2, hb3, hb4⟩, hF⟩, hm⟩
  have hsub : ∀ k, (LogF B.g lv k ∨ k = B.rf) → HF B yg lv k := by
    rintro k (hk | rfl)
    · exact h.logF hk
    · exact .inl (by simp)
  obtain ⟨n1, n2, n3, n4⟩ := h.next hF hsub hlv
  have a0 : ¬ (LogF B.g lv B.h ∨ B.h = B.rf) := by
    rintro (h1 | h1)
    · exact h.ne_log (by simp) h1
    · exact h.ne 0 5 (by decide) (by decide) (by decide) h1
  have a1 : ¬ (LogF B.g lv B.d ∨ B.d = B.rf) := by
    rintro (h1 | h1)
    · exact h.ne_log (by simp) h1
    · exact h.ne 1 5 (by decide) (by decide) (by decide) h1
  have a2 : ¬ (LogF B.g lv B.db ∨ B.db = B.rf) := by
    rintro (h1 | h1)
    · exact h.ne_log (by simp) h1
    · exact h.ne 2 5 (by decide) (by decide) (by decide) h1
  have a3 : ¬ (LogF B.g lv B.m ∨ B.m = B.rf) := by
    rintro (h1 | h1)
    · exact h.ne_log (by simp) h1
    · exact h.ne 3 5 (by decide) (by decide) (by decide) h1
  have a4 : ¬ (LogF B.g lv B.mb ∨ B.mb = B.rf) := by
    rintro (h1 | h1)
    · exact h.ne_log (by simp) h1
    · exact h.ne 4 5 (by decide) (by decide) (by decide) h1
  have a6 : ¬ (LogF B.g lv yg ∨ yg = B.rf) := by
    rintro (h1 | h1)
    · exact h.ne_log (by simp) h1
    · exact h.ne 6 5 (by decide) (by decide) (by decide) h1
  have hnew : ∀ k, w.heap.size ≤ k → ¬ LogF B.g lv' k → ¬ HF B yg lv' k := by
    intro k hk h1
    rintro (h2 | h2)
    · have := h.lvlt h2; omega
    · exact h1 (.inr h2)
  refine ⟨rfl, ⟨lv', x1, x2, x3, x4, ⟨hF.blk h.hh a0, ?_, ?_, hm, h.young.fr hF a6, n4, ?_, h.apart, n3, n2, ?_⟩, hlv, HGrew.step hlv (owns_four rfl (fun _ _ _ _ _ e => by cases e) hx1 hx2 hx3 hx4)⟩, hF.mono (fun k _ hk => hsub k hk)⟩
  · exact h.disk.fr hF (by rintro k (rfl | hk); exact a1; injection hk with hk; subst hk; exact a2)
  · exact h.gr.fr hF (by rintro k (rfl | hk); exact a3; injection hk with hk; subst hk; exact a4)
  · rw [List.map_append]; exact hL
  · intro s hs
    rcases List.mem_append.1 hs with hs | hs
    · exact n1 s hs
    · have hs := List.mem_singleton.1 hs
      subst hs
      refine ⟨fun p hp => ?_, fun _ _ _ _ _ e => (by cases e), fun _ _ _ _ _ _ _ _ e => (by cases e; try rfl)⟩
      simp only [Step.boxes, List.mem_cons, List.not_mem_nil, or_false] at hp
      rcases hp with rfl | rfl | rfl | rfl
      · exact ⟨hb1, hnew _ hx1 hn1⟩
      · exact ⟨hb2, hnew _ hx2 hn2⟩
      · exact ⟨hb3, hnew _ hx3 hn3⟩
      · exact ⟨hb4, hnew _ hx4 hn4⟩

set_option maxHeartbeats 1000000 in
theorem hw_put_young (h : HW w B S yg gv lv depth steps) (hd : 0 < depth) (hl : steps.length ≤ 100000) (a : Nat) (c : Nat) (ha : ikOk a) :
    Calls Tryz.prog 239 #[.pointer (some ⟨B.g, 0, none⟩), .map (some yg), ik a, ik c] w fun e w' =>
      e = unit0 ∧ (∃ lv' x1 x2 x3 x4, HW w' B { S with young := mput S.young a (some c) } yg gv lv' depth (steps ++ [.tab false true x1 x2 x3 x4 yg a (S.young a)]) ∧ (∀ k, lv'.ownBlock = some k → lv.ownBlock = some k ∨ w.heap.size ≤ k) ∧ HGrew w B yg gv lv steps gv lv' (steps ++ [.tab false true x1 x2 x3 x4 yg a (S.young a)])) ∧ Fr (HF B yg lv) w w' := by
  refine (u_put_int h.log hd (by rw [List.length_map]; exact hl) yg _ h.young a c ha (h.ne_log (by simp))).mono ?_
  rintro e w' ⟨rfl, ⟨⟨lv', x1, x2, x3, x4, hL, hlv, hx1, hx2, hx3, hx4, hn1, hn2, hn3, hn4, hb1, hb2, hb3, hb4⟩, hF⟩, hm⟩
  have hsub : ∀ k, (LogF B.g lv k ∨ k = yg) → HF B yg lv k := by
    rintro k (hk | rfl)
    · exact h.logF hk
    · exact .inl (by simp)
  obtain ⟨n1, n2, n3, n4⟩ := h.next hF hsub hlv
  have a0 : ¬ (LogF B.g lv B.h ∨ B.h = yg) := by
    rintro (h1 | h1)
    · exact h.ne_log (by simp) h1
    · exact h.ne 0 6 (by decide) (by decide) (by decide) h1
  have a1 : ¬ (LogF B.g lv B.d ∨ B.d = yg) := by
    rintro (h1 | h1)
    · exact h.ne_log (by simp) h1
    · exact h.ne 1 6 (by decide) (by decide) (by decide) h1
  have a2 : ¬ (LogF B.g lv B.db ∨ B.db = yg) := by
    rintro (h1 | h1)
    · exact h.ne_log (by simp) h1
    · exact h.ne 2 6 (by decide) (by decide) (by decide) h1
  have a3 : ¬ (LogF B.g lv B.m ∨ B.m = yg) := by
    rintro (h1 | h1)
    · exact h.ne_log (by simp) h1
    · exact h.ne 3 6 (by decide) (by decide) (by decide) h1
  have a4 : ¬ (LogF B.g lv B.mb ∨ B.mb = yg) := by
    rintro (h1 | h1)
    · exact h.ne_log (by simp) h1
    · exact h.ne 4 6 (by decide) (by decide) (by decide) h1
  have a5 : ¬ (LogF B.g lv B.rf ∨ B.rf = yg) := by
    rintro (h1 | h1)
    · exact h.ne_log (by simp) h1
    · exact h.ne 5 6 (by decide) (by decide) (by decide) h1
  have hnew : ∀ k, w.heap.size ≤ k → ¬ LogF B.g lv' k → ¬ HF B yg lv' k := by
    intro k hk h1
    rintro (h2 | h2)
    · have := h.lvlt h2; omega
    · exact h1 (.inr h2)
  refine ⟨rfl, ⟨lv', x1, x2, x3, x4, ⟨hF.blk h.hh a0, ?_, ?_, h.refs.fr hF a5, hm, n4, ?_, h.apart, n3, n2, ?_⟩, hlv, HGrew.step hlv (owns_four rfl (fun _ _ _ _ _ e => by cases e) hx1 hx2 hx3 hx4)⟩, hF.mono (fun k _ hk => hsub k hk)⟩
  · exact h.disk.fr hF (by rintro k (rfl | hk); exact a1; injection hk with hk; subst hk; exact a2)
  · exact h.gr.fr hF (by rintro k (rfl | hk); exact a3; injection hk with hk; subst hk; exact a4)
  · rw [List.map_append]; exact hL
  · intro s hs
    rcases List.mem_append.1 hs with hs | hs
    · exact n1 s hs
    · have hs := List.mem_singleton.1 hs
      subst hs
      refine ⟨fun p hp => ?_, fun _ _ _ _ _ e => (by cases e), fun _ _ _ _ _ _ _ _ e => (by cases e; try rfl)⟩
      simp only [Step.boxes, List.mem_cons, List.not_mem_nil, or_false] at hp
      rcases hp with rfl | rfl | rfl | rfl
      · exact ⟨hb1, hnew _ hx1 hn1⟩
      · exact ⟨hb2, hnew _ hx2 hn2⟩
      · exact ⟨hb3, hnew _ hx3 hn3⟩
      · exact ⟨hb4, hnew _ hx4 hn4⟩

set_option maxHeartbeats 1000000 in
theorem hw_drop_young (h : HW w B S yg gv lv depth steps) (hd : 0 < depth) (hl : steps.length ≤ 100000) (a : Nat) (ha : ikOk a) :
    Calls Tryz.prog 241 #[.pointer (some ⟨B.g, 0, none⟩), .map (some yg), ik a] w fun e w' =>
      e = unit0 ∧ (∃ lv' x1 x2 x3 x4, HW w' B { S with young := mput S.young a none } yg gv lv' depth (steps ++ [.tab true true x1 x2 x3 x4 yg a (S.young a)]) ∧ (∀ k, lv'.ownBlock = some k → lv.ownBlock = some k ∨ w.heap.size ≤ k) ∧ HGrew w B yg gv lv steps gv lv' (steps ++ [.tab true true x1 x2 x3 x4 yg a (S.young a)])) ∧ Fr (HF B yg lv) w w' := by
  refine (u_drop_int h.log hd (by rw [List.length_map]; exact hl) yg _ h.young a ha (h.ne_log (by simp))).mono ?_
  rintro e w' ⟨rfl, ⟨⟨lv', x1, x2, x3, x4, hL, hlv, hx1, hx2, hx3, hx4, hn1, hn2, hn3, hn4, hb1, hb2, hb3, hb4⟩, hF⟩, hm⟩
  have hsub : ∀ k, (LogF B.g lv k ∨ k = yg) → HF B yg lv k := by
    rintro k (hk | rfl)
    · exact h.logF hk
    · exact .inl (by simp)
  obtain ⟨n1, n2, n3, n4⟩ := h.next hF hsub hlv
  have a0 : ¬ (LogF B.g lv B.h ∨ B.h = yg) := by
    rintro (h1 | h1)
    · exact h.ne_log (by simp) h1
    · exact h.ne 0 6 (by decide) (by decide) (by decide) h1
  have a1 : ¬ (LogF B.g lv B.d ∨ B.d = yg) := by
    rintro (h1 | h1)
    · exact h.ne_log (by simp) h1
    · exact h.ne 1 6 (by decide) (by decide) (by decide) h1
  have a2 : ¬ (LogF B.g lv B.db ∨ B.db = yg) := by
    rintro (h1 | h1)
    · exact h.ne_log (by simp) h1
    · exact h.ne 2 6 (by decide) (by decide) (by decide) h1
  have a3 : ¬ (LogF B.g lv B.m ∨ B.m = yg) := by
    rintro (h1 | h1)
    · exact h.ne_log (by simp) h1
    · exact h.ne 3 6 (by decide) (by decide) (by decide) h1
  have a4 : ¬ (LogF B.g lv B.mb ∨ B.mb = yg) := by
    rintro (h1 | h1)
    · exact h.ne_log (by simp) h1
    · exact h.ne 4 6 (by decide) (by decide) (by decide) h1
  have a5 : ¬ (LogF B.g lv B.rf ∨ B.rf = yg) := by
    rintro (h1 | h1)
    · exact h.ne_log (by simp) h1
    · exact h.ne 5 6 (by decide) (by decide) (by decide) h1
  have hnew : ∀ k, w.heap.size ≤ k → ¬ LogF B.g lv' k → ¬ HF B yg lv' k := by
    intro k hk h1
    rintro (h2 | h2)
    · have := h.lvlt h2; omega
    · exact h1 (.inr h2)
  refine ⟨rfl, ⟨lv', x1, x2, x3, x4, ⟨hF.blk h.hh a0, ?_, ?_, h.refs.fr hF a5, hm, n4, ?_, h.apart, n3, n2, ?_⟩, hlv, HGrew.step hlv (owns_four rfl (fun _ _ _ _ _ e => by cases e) hx1 hx2 hx3 hx4)⟩, hF.mono (fun k _ hk => hsub k hk)⟩
  · exact h.disk.fr hF (by rintro k (rfl | hk); exact a1; injection hk with hk; subst hk; exact a2)
  · exact h.gr.fr hF (by rintro k (rfl | hk); exact a3; injection hk with hk; subst hk; exact a4)
  · rw [List.map_append]; exact hL
  · intro s hs
    rcases List.mem_append.1 hs with hs | hs
    · exact n1 s hs
    · have hs := List.mem_singleton.1 hs
      subst hs
      refine ⟨fun p hp => ?_, fun _ _ _ _ _ e => (by cases e), fun _ _ _ _ _ _ _ _ e => (by cases e; try rfl)⟩
      simp only [Step.boxes, List.mem_cons, List.not_mem_nil, or_false] at hp
      rcases hp with rfl | rfl | rfl | rfl
      · exact ⟨hb1, hnew _ hx1 hn1⟩
      · exact ⟨hb2, hnew _ hx2 hn2⟩
      · exact ⟨hb3, hnew _ hx3 hn3⟩
      · exact ⟨hb4, hnew _ hx4 hn4⟩
end
end Go.Proofs.YtajojhfialbfkaaGreatDoor
/- Layer 10: the heap: Put. -/
namespace Go.Proofs.YtajojhfialbfkaaGreatDoor
open Go.RowKit
set_option maxRecDepth 100000

section
variable {w w' : World} {B : HB} {S : HS} {yg : Nat} {gv lv : Value} {depth : Nat} {steps : List Step}

theorem HW.keepLv (k : Nat) (h : lv.ownBlock = some k) : lv.ownBlock = some k ∨ w.heap.size ≤ k := .inl h

/-- The grants are others. -/
theorem HW.of_grants {G' : GS} (h : HW w B S yg gv lv depth steps) (hg : GrAt w' B.m (B.msv S) G') (hlen : G'.l.length = S.G.l.length) (hF : Fr (GrF B.m (B.msv S)) w w') : HW w' B { S with G := G' } yg gv lv depth steps := by
  have hsub : ∀ k, GrF B.m (B.msv S) k → HF B yg lv k := by
    rintro k (rfl | hk)
    · exact .inl (by simp)
    · injection hk with hk; subst hk; exact .inl (by simp)
  have hav : ∀ k, k ≠ B.m → k ≠ B.mb → ¬ GrF B.m (B.msv S) k := by
    rintro k h1 h2 (rfl | hk)
    · exact h1 rfl
    · injection hk with hk; exact h2 hk.symm
  obtain ⟨n1, n2, n3, n4⟩ := h.next hF hsub (fun k hk => .inl hk)
  refine ⟨hF.blk h.hh (hav _ (h.ne 0 3 (by decide) (by decide) (by decide)) (h.ne 0 4 (by decide) (by decide) (by decide))), ?_, ?_, h.refs.fr hF (hav _ (h.ne 5 3 (by decide) (by decide) (by decide)) (h.ne 5 4 (by decide) (by decide) (by decide))), h.young.fr hF (hav _ (h.ne 6 3 (by decide) (by decide) (by decide)) (h.ne 6 4 (by decide) (by decide) (by decide))), n4, ?_, h.apart, n3, n2, n1⟩
  · refine h.disk.fr hF ?_
    rintro k (rfl | hk)
    · exact hav _ (h.ne 1 3 (by decide) (by decide) (by decide)) (h.ne 1 4 (by decide) (by decide) (by decide))
    · injection hk with hk; subst hk
      exact hav _ (h.ne 2 3 (by decide) (by decide) (by decide)) (h.ne 2 4 (by decide) (by decide) (by decide))
  · have e : B.msv { S with G := G' } = B.msv S := by simp only [HB.msv, hlen]
    rw [e]; exact hg
  · refine h.log.fr hF fun k hk hg => h.ne_log (k := k) ?_ hk
    rcases hg with rfl | hg
    · simp
    · injection hg with hg; subst hg; simp

/-- The disk is another. -/
theorem HW.of_disk {D' : DS} (h : HW w B S yg gv lv depth steps) (hg : DiskAt w' B.d (B.dsv S) D') (hlen : D'.l.length = S.D.l.length) (hF : Fr (DiskF B.d (B.dsv S)) w w') : HW w' B { S with D := D' } yg gv lv depth steps := by
  have hsub : ∀ k, DiskF B.d (B.dsv S) k → HF B yg lv k := by
    rintro k (rfl | hk)
    · exact .inl (by simp)
    · injection hk with hk; subst hk; exact .inl (by simp)
  have hav : ∀ k, k ≠ B.d → k ≠ B.db → ¬ DiskF B.d (B.dsv S) k := by
    rintro k h1 h2 (rfl | hk)
    · exact h1 rfl
    · injection hk with hk; exact h2 hk.symm
  obtain ⟨n1, n2, n3, n4⟩ := h.next hF hsub (fun k hk => .inl hk)
  refine ⟨hF.blk h.hh (hav _ (h.ne 0 1 (by decide) (by decide) (by decide)) (h.ne 0 2 (by decide) (by decide) (by decide))), ?_, ?_, h.refs.fr hF (hav _ (h.ne 5 1 (by decide) (by decide) (by decide)) (h.ne 5 2 (by decide) (by decide) (by decide))), h.young.fr hF (hav _ (h.ne 6 1 (by decide) (by decide) (by decide)) (h.ne 6 2 (by decide) (by decide) (by decide))), n4, ?_, h.apart, n3, n2, n1⟩
  · have e : B.dsv { S with D := D' } = B.dsv S := by simp only [HB.dsv, hlen]
    rw [e]; exact hg
  · refine h.gr.fr hF ?_
    rintro k (rfl | hk)
    · exact hav _ (h.ne 3 1 (by decide) (by decide) (by decide)) (h.ne 3 2 (by decide) (by decide) (by decide))
    · injection hk with hk; subst hk
      exact hav _ (h.ne 4 1 (by decide) (by decide) (by decide)) (h.ne 4 2 (by decide) (by decide) (by decide))
  · refine h.log.fr hF fun k hk hg => h.ne_log (k := k) ?_ hk
    rcases hg with rfl | hg
    · simp
    · injection hg with hg; subst hg; simp

theorem Step.val_cl (s : Step) : ∃ f cap, s.val = cl f cap := by
  cases s with
  | tab d y x1 x2 x3 x4 yg key was => cases d <;> exact ⟨_, _, rfl⟩
  | _ => exact ⟨_, _, rfl⟩

/-- One more step back. -/
theorem hw_back (h : HW w B S yg gv lv depth steps) (hd : 0 < depth) (hl : steps.length ≤ 100000) (s : Step) (hs : StepIs w B yg lv s) :
    Calls Tryz.prog 167 #[.pointer (some ⟨B.g, 0, none⟩), s.val] w fun e w' =>
      e = unit0 ∧ (∃ lv', HW w' B S yg gv lv' depth (steps ++ [s]) ∧ (∀ k, lv'.ownBlock = some k → lv.ownBlock = some k ∨ w.heap.size ≤ k)) ∧ Fr (LogF B.g lv) w w' := by
  obtain ⟨f, cap, hv⟩ := s.val_cl
  rw [hv]
  refine (log_back h.log hd (by rw [List.length_map]; omega) f cap).mono ?_
  rintro e w' ⟨rfl, lv', hL, hF, hlv⟩
  obtain ⟨n1, n2, n3, n4⟩ := h.next hF (fun k hk => h.logF hk) hlv
  have hsx : StepIs w' B yg lv' s := by
    have h2 : HW w B S yg gv lv depth steps := h
    have hnew : ∀ k, k < w.heap.size → ¬ HF B yg lv k → ¬ HF B yg lv' k := by
      rintro k hk hn (h1 | h1)
      · exact hn (.inl h1)
      · rcases hlv k h1 with h3 | h3
        · exact hn (.inr h3)
        · omega
    refine ⟨fun p hp => ?_, fun x y a c l e => ?_, hs.tab⟩
    · obtain ⟨h1, h2⟩ := hs.box p hp
      exact ⟨hF.blk h1 (fun f => h2 (h.logF f)), hnew _ (lt_of_blk h1) h2⟩
    · obtain ⟨h1, h2⟩ := hs.gone x y a c l e
      exact ⟨ownsRow_fr h1 hF (fun k hk f => h2 k hk (h.logF f)), fun k hk => hnew k (h1.lt k hk).2 (h2 k hk)⟩
  refine ⟨rfl, ⟨lv', ⟨hF.blk h.hh (h.ne_log (by simp)), ?_, ?_, h.refs.fr hF (h.ne_log (by simp)), h.young.fr hF (h.ne_log (by simp)), n4, ?_, h.apart, n3, n2, ?_⟩, hlv⟩, hF⟩
  · refine h.disk.fr hF ?_
    rintro k (rfl | hk)
    · exact h.ne_log (by simp)
    · injection hk with hk; subst hk; exact h.ne_log (by simp)
  · refine h.gr.fr hF ?_
    rintro k (rfl | hk)
    · exact h.ne_log (by simp)
    · injection hk with hk; subst hk; exact h.ne_log (by simp)
  · rw [List.map_append, List.map_singleton, hv]; exact hL
  · intro t ht
    rcases List.mem_append.1 ht with ht | ht
    · exact n1 t ht
    · have := List.mem_singleton.1 ht
      subst this
      exact hsx

theorem heap_give (h a : Nat) (w : World) :
    Calls Tryz.prog 238 #[.pointer (some ⟨h, 0, none⟩), .int .i64 (a : Int)] w fun e w' =>
      e = .returned (cl 276 #[.pointer (some ⟨w.heap.size, 0, none⟩), .pointer (some ⟨w.heap.size + 1, 0, none⟩)]) ∧ (w.alloc (.cells #[.pointer (some ⟨h, 0, none⟩)] 75)).alloc (.cells #[.int .i64 (a : Int)] 3) = w' := by
  go_enter Tryz.func238, Tryz.ntmps238
  go_wp2_with fail
  go_ret
  exact ⟨rfl, rfl⟩
end
end Go.Proofs.YtajojhfialbfkaaGreatDoor
