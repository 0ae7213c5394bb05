/- Layer 4: what isn't sure. -/
import Derived.Maps.OwnSet
import Derived.Test.YtajojhfialbfkaaGreatDoorMRowStoreF03
namespace Go.Proofs.YtajojhfialbfkaaGreatDoor
open Go.RowKit
set_option maxRecDepth 100000

theorem infoInt : (Tryz.prog.info? 3).map (fun i => (i.zero, i.size, i.bytes)) = some (some (.int .i64 0), 1, 8) := by kernel_rfl

/-- Isn't a sector sure? -/
def notSure (x : ByteArray × ByteArray) : Bool := decide (x.1 ≠ x.2)
def looseTo (l : List (ByteArray × ByteArray)) (k : Nat) : List Nat := (List.range k).filter fun i => (l[i]?.map notSure).getD false
theorem looseTo_zero (l : List (ByteArray × ByteArray)) : looseTo l 0 = [] := rfl
theorem looseTo_yes (l : List (ByteArray × ByteArray)) (k : Nat) (h : k < l.length) (hn : l[k].1 ≠ l[k].2) : looseTo l (k + 1) = looseTo l k ++ [k] := by
  unfold looseTo
  rw [List.range_succ, List.filter_append]
  simp [h, notSure, hn]
theorem looseTo_no (l : List (ByteArray × ByteArray)) (k : Nat) (h : k < l.length) (hn : l[k].1 = l[k].2) : looseTo l (k + 1) = looseTo l k := by
  unfold looseTo
  rw [List.range_succ, List.filter_append]
  simp [h, notSure, hn]
theorem looseTo_length (l : List (ByteArray × ByteArray)) (k : Nat) : (looseTo l k).length ≤ k := by
  unfold looseTo
  exact Nat.le_trans (List.length_filter_le _ _) (by simp)

theorem cell_new2 (w : World) (o : Obj) (x : Value) (t : TypeId) : ∀ j u, [x][j]? = some u → ((w.alloc o).alloc (.cells #[x] t)).cell? ((⟨w.heap.size + 1, 0, none⟩ : Addr).add j) = some u := by
  have := cell_one_new (w.alloc o) x t
  rw [show (w.alloc o).heap.size = w.heap.size + 1 by simp] at this
  exact this

section
variable {w : World} {d : Nat} {sv : Value} {D : DS}

theorem disk_loose (h : DiskAt w d sv D) (hn : 0 < D.l.length) (hn2 : D.l.length ≤ 4096) :
    Calls Tryz.prog 20 #[.pointer (some ⟨d, 0, none⟩)] w fun e w' =>
      ∃ v, e = .returned v ∧ w'.ownsRow w.heap.size 3 1 v (looseTo D.l D.l.length).length (icells (looseTo D.l D.l.length)) ∧ Below w.heap.size w w' := by
  obtain ⟨i0, hi, hz0, hz1, hz2⟩ := info_parts infoInt
  obtain ⟨g, cap, cur, rfl, k1, k2, k3, k4, k5⟩ := ownsRow_at h.row hn
  have cd := cell_blk h.hd
  unfold maxLen at k2
  have H := Lib.hid h
  have HI := Lib.hid hi
  have HZ0 := Lib.hid hz0
  have HZ1 := Lib.hid hz1
  have HZ2 := Lib.hid hz2
  clear h hi hz0 hz1 hz2 k3 k4 k5
  go_enter Tryz.func20, Tryz.ntmps20
  go_wp2_with fail
  go_loopw [3, 11] (fun v i w' => ∃ k : Nat, k ≤ D.l.length ∧ i = .int .i64 (k : Int) ∧ w'.ownsRow w.heap.size 3 1 v (looseTo D.l k).length (icells (looseTo D.l k)) ∧ Below w.heap.size w w') (fun _ i _ => D.l.length - (intOf i).toNat)
  case atStart => exact ⟨0, Nat.zero_le _, rfl, ⟨by simp [looseTo, icells], .inl ⟨rfl, rfl⟩⟩, Below.refl _ _⟩
  case round =>
    obtain ⟨k, hk, rfl, hrow, hbel⟩ := hrel
    rcases Nat.lt_or_ge k D.l.length with hlt | hge
    · have hgr : g < w.heap.size := (H.out.row.lt g rfl).2
      have hcs := H.out.row.cellAt (k * 2) (by omega)
      rw [secs_sure _ k hlt, ← hbel.cell (p := ⟨g, k * 2, none⟩) hgr] at hcs
      have hcn := H.out.row.cellAt (k * 2 + 1) (by omega)
      rw [secs_now _ k hlt, ← hbel.cell (p := ⟨g, k * 2 + 1, none⟩) hgr] at hcn
      have HR := Lib.hid hrow
      have HB := Lib.hid hbel
      have hL := looseTo_length D.l k
      obtain ⟨ao, c, rfl, hc1, hc2⟩ := ownsRow_form hrow
      clear hrow hbel cd
      by_cases he : D.l[k].1 = D.l[k].2
      · have hx := looseTo_no D.l k hlt he
        have HX := Lib.hid hx
        rw [← he] at hcn
        clear he hx
        go_wp2_with fail
        go_roundw
        case rel => exact ⟨k + 1, hlt, by go_num, by rw [HX.out]; exact HR.out.alloc _, HB.out.alloc HB.out.size _⟩
        case measure => simp [intOf]; omega
      · have HX := Lib.hid (looseTo_yes D.l k hlt he)
        have hne : (D.l[k].1.toList == D.l[k].2.toList) = false := by
          refine (beq_eq_false_iff_ne).2 fun e => he ?_
          rw [ByteArray.toList_eq, ByteArray.toList_eq] at e
          exact ByteArray.ext (Array.toList_inj.1 e)
        have hsz := HB.out.size
        have hz2 : i0.bytes = 8 := HZ2.out
        have HE := Lib.hid he
        clear he
        go_wp2_with (at_builtin; refine wpList_append_lies _ rfl _ _ _ rfl w.heap.size 3 i0 _ 1 8 Tryz.underlying58 HI.out HZ0.out HZ1.out hz2 rfl (by decide) _ _ _ (by rfl) ((HR.out.alloc _).alloc _) ⟨wr.heap.size + 1, 0, none⟩ 1 1 [.int .i64 (k : Int)] (by rfl) (by rfl) (cell_new2 wr _ _ _) (by simp [Value.oneCell']) (by decide) (by unfold maxLen; omega) (by omega) (by simp; omega) _ rfl ?_)
        intro g2 cap2 w3 hown1 hgrow hat hlt2
        have HO := Lib.hid hown1
        have HG := Lib.hid hgrow
        clear hown1 hgrow hat hlt2 hcs hcn
        go_wp2_with fail
        go_roundw
        case rel =>
          refine ⟨k + 1, hlt, by go_num, ?_, ?_⟩
          · rw [HX.out, icells, List.map_append, List.length_append]
            exact HO.out
          · refine ((HB.out.alloc HB.out.size _).alloc (by simp; omega) _).grown HG.out (by simp; omega) (fun x hx => (HR.out.lt x hx).1)
        case measure => simp [intOf]; omega
    · have hkN := Lib.hid (show k = D.l.length by omega)
      have HR := Lib.hid hrow
      have HB := Lib.hid hbel
      clear hrow hbel cd
      go_wp2_with fail
      go_ret
      refine ⟨_, rfl, ?_, HB.out⟩
      rw [← hkN.out]
      exact HR.out
end
end Go.Proofs.YtajojhfialbfkaaGreatDoor
/- Layer 4: writes that fail; the statements' own Write and Read. -/
namespace Go.Proofs.YtajojhfialbfkaaGreatDoor
open Go.RowKit
set_option maxRecDepth 100000

section
variable {w : World} {d : Nat} {sv : Value} {D : DS}

theorem disk_write_range (h : DiskAt w d sv D) (hz : D.dead = false) (k : Nat) (hk : D.l.length ≤ k) (s : ByteArray) :
    Calls Tryz.prog 47 #[.pointer (some ⟨d, 0, none⟩), .int .i64 (k : Int), .string s] w fun e w' => e = failed 6 ∧ w = w' := by
  have HA := Lib.hid (alive_ok h hz)
  have HC := Lib.hid (check_bad h (k : Int) (.inr (by omega)))
  clear h hz hk
  go_enter Tryz.func47, Tryz.ntmps47
  go_wp2_with fail
  refine HA.out.mono ?_
  rintro e w' ⟨rfl, rfl⟩
  go_wp2_with fail
  refine HC.out.mono ?_
  rintro e w' ⟨rfl, rfl⟩
  exact ⟨rfl, rfl, rfl⟩

theorem disk_write_big (h : DiskAt w d sv D) (hz : D.dead = false) (k : Nat) (hk : k < D.l.length) (s : ByteArray) (hs : 64 < s.size) (hs2 : s.size ≤ 140737488355328) :
    Calls Tryz.prog 47 #[.pointer (some ⟨d, 0, none⟩), .int .i64 (k : Int), .string s] w fun e w' => e = failed 3 ∧ Below w.heap.size w w' := by
  have HA := Lib.hid (alive_ok h hz)
  have HC := Lib.hid (check_ok h k hk)
  have HT := Lib.hid hs
  have HT2 := Lib.hid hs2
  clear h hz hk hs hs2
  go_enter Tryz.func47, Tryz.ntmps47
  go_wp2_with fail
  refine HA.out.mono ?_
  rintro e w' ⟨rfl, rfl⟩
  go_wp2_with fail
  refine HC.out.mono ?_
  rintro e w' ⟨rfl, rfl⟩
  go_wp2_with fail
  have hO : OutAt (w.alloc (Obj.cells #[.slice none 0 0] 182)) w.heap.size w.heap.size [] :=
    ⟨Nat.le_refl _, .slice none 0 0, blk_alloc_new _ _, by simp [bcells], .inl ⟨rfl, rfl⟩⟩
  refine (out_text w.heap.size w.heap.size [] s (by have := HT2.out; simp; omega) _ hO (by simp)).mono ?_
  rintro e w1 ⟨rfl, hO, hb1⟩
  have hb1 : Below w.heap.size w w1 := ((Below.refl _ w).alloc (Nat.le_refl _) _).trans hb1
  have HO := Lib.hid hO
  have HB1 := Lib.hid hb1
  clear hO hb1
  go_wp2_with fail
  refine (out_fill_big w.heap.size w.heap.size ([] ++ s.data.toList) 64 (show 64 < ([] ++ s.data.toList).length from HT.out) (by decide) (show ([] ++ s.data.toList).length ≤ 140737488355328 from HT2.out) w1 HO.out).mono ?_
  rintro e w2 ⟨rfl, rfl⟩
  exact ⟨rfl, rfl, HB1.out⟩

/-- A disk that was never armed. -/
def DS.calm (D : DS) : Prop := D.armed = false ∧ D.dead = false ∧ D.left = 0

theorem DS.calm_spent (h : D.calm) : D.spent = D := by unfold DS.spent; rw [h.1]; rfl
theorem DS.calm_can (h : D.calm) : D.can = true := by unfold DS.can; rw [h.1]; rfl
theorem DS.calm_put (h : D.calm) (k : Nat) (s : ByteArray) : (D.put k s).calm := h
theorem DS.calm_wrote (h : D.calm) (k : Nat) (s : ByteArray) : (D.wrote k s).calm := by
  unfold DS.wrote; rw [DS.calm_spent h]; exact h
theorem DS.wrote_len (D : DS) (k : Nat) (s : ByteArray) : (D.wrote k s).l.length = D.l.length := by
  show (D.spent.l.modify k _).length = _
  rw [List.length_modify, DS.spent_l]
theorem DS.calm_sync (h : D.calm) : D.sync.calm := h
theorem DS.sync_len (D : DS) : D.sync.l.length = D.l.length := by simp [DS.sync]
theorem DS.calm_fresh (n : Nat) : (DS.fresh n).calm := ⟨rfl, rfl, rfl⟩
theorem DS.fresh_len (n : Nat) : (DS.fresh n).l.length = n := by simp [DS.fresh]

/-- Written, on a disk that is calm. -/
theorem disk_write_calm (h : DiskAt w d sv D) (hc : D.calm) (k : Nat) (hk : k < D.l.length) (s : ByteArray) (hs : s.size ≤ 64) :
    Calls Tryz.prog 47 #[.pointer (some ⟨d, 0, none⟩), .int .i64 (k : Int), .string s] w fun e w' =>
      e = unit0 ∧ DiskAt w' d sv (D.wrote k s) ∧ Fr (DiskF d sv) w w' := by
  refine (disk_write h hc.2.1 (by rw [hc.2.2]; decide) (by rw [hc.2.2]; decide) k hk s hs).mono ?_
  rintro e w' ⟨⟨rfl, _, h1⟩ | ⟨rfl, h2, _⟩, hF⟩
  · exact ⟨rfl, h1, hF⟩
  · rw [DS.calm_can hc] at h2; cases h2

theorem disk_sync_calm (h : DiskAt w d sv D) (hc : D.calm) (hn : 0 < D.l.length) (hn2 : D.l.length ≤ 4096) :
    Calls Tryz.prog 101 #[.pointer (some ⟨d, 0, none⟩)] w fun e w' =>
      e = unit0 ∧ DiskAt w' d sv D.sync ∧ Fr (DiskF d sv) w w' := by
  refine (disk_sync h hc.2.1 (by rw [hc.2.2]; decide) (by rw [hc.2.2]; decide) hn hn2).mono ?_
  rintro e w' ⟨⟨rfl, _, h1⟩ | ⟨rfl, h2, _⟩, hF⟩
  · rw [DS.calm_spent hc] at h1; exact ⟨rfl, h1, hF⟩
  · rw [DS.calm_can hc] at h2; cases h2

/-- Any write on a calm disk: written, or an error. -/
theorem disk_write_junk (h : DiskAt w d sv D) (hc : D.calm) (k : Nat) (s : ByteArray) (hs2 : s.size ≤ 140737488355328) :
    Calls Tryz.prog 47 #[.pointer (some ⟨d, 0, none⟩), .int .i64 (k : Int), .string s] w fun e w' =>
      (e = unit0 ∨ ∃ n, e = failed n) ∧ (∃ D', D'.calm ∧ D'.l.length = D.l.length ∧ DiskAt w' d sv D') ∧ Fr (DiskF d sv) w w' := by
  rcases Nat.lt_or_ge k D.l.length with hk | hk
  · rcases Nat.lt_or_ge 64 s.size with hs | hs
    · refine (disk_write_big h hc.2.1 k hk s hs hs2).mono ?_
      rintro e w' ⟨rfl, hb⟩
      exact ⟨.inr ⟨_, rfl⟩, ⟨D, hc, rfl, h.fr (Fr.of_below (F := fun _ => False) hb) (fun _ _ h => h)⟩, Fr.of_below hb⟩
    · refine (disk_write_calm h hc k hk s hs).mono ?_
      rintro e w' ⟨rfl, h1, hF⟩
      exact ⟨.inl rfl, ⟨_, DS.calm_wrote hc k s, DS.wrote_len D k s, h1⟩, hF⟩
  · refine (disk_write_range h hc.2.1 k hk s).mono ?_
    rintro e w' ⟨rfl, rfl⟩
    exact ⟨.inr ⟨_, rfl⟩, ⟨D, hc, rfl, h⟩, Fr.refl _ _⟩

theorem l4_write_in (a b c : Nat) (k : Nat) (s : ByteArray) (R : Ending → World → Prop)
    (ha : w.heap[a]? = some (.cells #[.pointer (some ⟨d, 0, none⟩)] 55 (0, 0))) (hb : w.heap[b]? = some (.cells #[.int .i64 (k : Int)] 3 (0, 0))) (hc : w.heap[c]? = some (.cells #[.string s] 9 (0, 0)))
    (h : Calls Tryz.prog 47 #[.pointer (some ⟨d, 0, none⟩), .int .i64 (k : Int), .string s] w fun e w' => (e = unit0 ∨ ∃ n, e = failed n) ∧ R e w') :
    Calls Tryz.prog 46 #[.pointer (some ⟨a, 0, none⟩), .pointer (some ⟨b, 0, none⟩), .pointer (some ⟨c, 0, none⟩)] w R := by
  have ha := cell_blk ha
  have hb := cell_blk hb
  have hc := cell_blk hc
  have H := Lib.hid h
  clear h
  go_enter Tryz.func46, Tryz.ntmps46
  go_wp2_with fail
  refine H.out.mono ?_
  rintro e w' ⟨rfl | ⟨n, rfl⟩, hR⟩
  · go_wp2_with fail
    go_end0
    exact hR
  · exact ⟨rfl, hR⟩

theorem enters_l4w (a b c : Value) : Enters 46 (#[] ++ #[a, b, c]) := fun w => by simp [go_sem]

theorem l4_write (h : DiskAt w d sv D) (hc : D.calm) (k : Nat) (s : ByteArray) (hs2 : s.size ≤ 140737488355328) :
    Calls Tryz.prog 13 #[.pointer (some ⟨d, 0, none⟩), .int .i64 (k : Int), .string s] w fun e w' =>
      (∃ n, e = .returned (.int .i64 n)) ∧ (∃ D', D'.calm ∧ D'.l.length = D.l.length ∧ DiskAt w' d sv D') ∧ Fr (DiskF d sv) w w' := by
  have H := Lib.hid h
  have HC := Lib.hid hc
  have HS := Lib.hid hs2
  clear h hc hs2
  go_enter Tryz.func13, Tryz.ntmps13
  go_wp2_with fail
  refine (guard_any 46 #[] #[.pointer (some ⟨w.heap.size, 0, none⟩), .pointer (some ⟨w.heap.size + 1, 0, none⟩), .pointer (some ⟨w.heap.size + 1 + 1, 0, none⟩)] (enters_l4w _ _ _) _
    (fun _ w2 => (∃ D', D'.calm ∧ D'.l.length = D.l.length ∧ DiskAt w2 d sv D') ∧ Fr (DiskF d sv) w w2) ?_).mono ?_
  · have hlt := H.out.lt
    have hs0 : w.heap.size = w.heap.size := rfl
    have F4 : Fr (fun _ => False) w ((((w.alloc (Obj.cells #[.pointer (some ⟨d, 0, none⟩)] 55)).alloc (Obj.cells #[.int .i64 (k : Int)] 3)).alloc (Obj.cells #[.string s] 9)).alloc (Obj.cells #[.int .i64 0] 29)) :=
      (((((Fr.refl _ w).alloc _).alloc _).alloc _).alloc _)
    have hD := H.out.fr F4 (fun _ _ h => h)
    have b0 := blk_alloc (o' := Obj.cells #[.int .i64 0] 29) (blk_alloc (o' := Obj.cells #[.string s] 9) (blk_alloc (o' := Obj.cells #[.int .i64 (k : Int)] 3) (blk_new (w := w) (o := Obj.cells #[.pointer (some ⟨d, 0, none⟩)] 55) rfl)))
    have b1 := blk_alloc (o' := Obj.cells #[.int .i64 0] 29) (blk_alloc (o' := Obj.cells #[.string s] 9) (blk_new (o := Obj.cells #[.int .i64 (k : Int)] 3) (size_alloc (w := w) (o := Obj.cells #[.pointer (some ⟨d, 0, none⟩)] 55) rfl)))
    have b2 := blk_alloc (o' := Obj.cells #[.int .i64 0] 29) (blk_new (o := Obj.cells #[.string s] 9) (size_alloc (o := Obj.cells #[.int .i64 (k : Int)] 3) (size_alloc (w := w) (o := Obj.cells #[.pointer (some ⟨d, 0, none⟩)] 55) rfl)))
    have hs3 := size_alloc (o := Obj.cells #[.string s] 9) (size_alloc (o := Obj.cells #[.int .i64 (k : Int)] 3) (size_alloc (w := w) (o := Obj.cells #[.pointer (some ⟨d, 0, none⟩)] 55) rfl))
    have b3 := blk_new (o := Obj.cells #[.int .i64 0] 29) hs3
    refine l4_write_in _ _ _ k s _ b0 b1 b2 ((disk_write_junk hD HC.out k s HS.out).mono ?_)
    rintro e w2 ⟨he, hD2, hF⟩
    refine ⟨he, ?_, ?_⟩
    · rw [hs3]
      exact hF.blk b3 (fun hk => by have := hlt _ hk; omega)
    · have hR : (∃ D', D'.calm ∧ D'.l.length = D.l.length ∧ DiskAt w2 d sv D') ∧ Fr (DiskF d sv) w w2 := ⟨hD2, F4.mono (fun _ _ h => h.elim) |>.trans hF (fun _ _ h => h)⟩
      rcases he with rfl | ⟨n, rfl⟩
      · exact .inl ⟨rfl, hR⟩
      · exact .inr ⟨n, rfl, hR⟩
  · rintro e w' ⟨o, w2, rfl, ⟨⟨D', h1, h2, h3⟩, h4⟩, hF⟩
    have hlt := H.out.lt
    have hs3 := size_alloc (o := Obj.cells #[.string s] 9) (size_alloc (o := Obj.cells #[.int .i64 (k : Int)] 3) (size_alloc (w := w) (o := Obj.cells #[.pointer (some ⟨d, 0, none⟩)] 55) rfl))
    rw [hs3] at hF
    have h3' := Lib.hid (h3.fr hF (fun x hx e => by have := hlt x hx; omega))
    have h4' := Lib.hid (h4.trans hF (fun x hx e => absurd e (by omega)))
    have h12 := Lib.hid (And.intro h1 h2)
    clear h1 h2 h3 h4 hF hs3
    go_wp2_with fail
    go_ret
    exact ⟨⟨_, rfl⟩, ⟨D', h12.out.1, h12.out.2, h3'.out⟩, h4'.out⟩
end
end Go.Proofs.YtajojhfialbfkaaGreatDoor
/- Layer 5: stamps. -/
namespace Go.Proofs.YtajojhfialbfkaaGreatDoor
open Go.RowKit
set_option maxRecDepth 100000

def stampB (e q : Nat) : List UInt8 := numB e 4 ++ numB q 4
theorem stampB_length (e q : Nat) : (stampB e q).length = 8 := by simp [stampB, numB_length]
abbrev stampV (e q : Nat) : Value := .agg #[.int .u32 (e : Int), .int .u32 (q : Int)]

theorem u64_in (n : Nat) (h : n < 18446744073709551616) : IntKind.u64.wrap (n : Int) = (n : Int) := by
  have h0 : IntKind.u64.bits = 64 := rfl
  have h1 : IntKind.u64.signed = false := rfl
  simp only [IntKind.wrap, h0, h1, Bool.false_and, Bool.false_eq_true, if_false]
  omega

theorem stamp_bytes (e q : Nat) (he : e < 4294967296) (hq : q < 4294967296) (w : World) :
    Calls Tryz.prog 198 #[stampV e q] w fun en w' => en = .returned (.string (bstr (stampB e q))) ∧ Below w.heap.size w w' := by
  have h1 := u64_in e (by omega)
  have h2 := u64_in q (by omega)
  have HE := Lib.hid he
  have HQ := Lib.hid hq
  clear he hq
  go_enter Tryz.func198, Tryz.ntmps198
  go_wp2_with fail
  have hb0 := blk_alloc (o' := Obj.cells #[.slice none 0 0] 182) (blk_new (w := w) (o := Obj.cells #[.int .u32 (e : Int), .int .u32 (q : Int)] 223) rfl)
  have hO : OutAt ((w.alloc (Obj.cells #[.int .u32 (e : Int), .int .u32 (q : Int)] 223)).alloc (Obj.cells #[.slice none 0 0] 182)) (w.heap.size + 1) (w.heap.size + 1) [] :=
    ⟨Nat.le_refl _, .slice none 0 0, blk_new (by simp), by simp [bcells], .inl ⟨rfl, rfl⟩⟩
  have hsz : ((w.alloc (Obj.cells #[.int .u32 (e : Int), .int .u32 (q : Int)] 223)).alloc (Obj.cells #[.slice none 0 0] 182)).heap.size = w.heap.size + 1 + 1 := by simp
  have hbel : Below w.heap.size w ((w.alloc (Obj.cells #[.int .u32 (e : Int), .int .u32 (q : Int)] 223)).alloc (Obj.cells #[.slice none 0 0] 182)) := ((Below.refl _ w).alloc (Nat.le_refl _) _).alloc (by simp) _
  generalize ((w.alloc (Obj.cells #[.int .u32 (e : Int), .int .u32 (q : Int)] 223)).alloc (Obj.cells #[.slice none 0 0] 182)) = w0 at *
  have hc := cell_blk hb0
  refine wp_region_perm 9 (fun w' => ∀ i, w'.cell? ⟨w.heap.size, i, none⟩ = #[.int .u32 (e : Int), .int .u32 (q : Int)][i]?) [(0, true), (1, true), (2, true), (4, true), (5, true), (6, true), (3, false), (7, false), (8, false)] (by kernel_rfl) (by kernel_rfl) ?_ (by intro c a d v w h; cases d <;> exact h) ?_
  · exact hc
  simp only [pickOps, List.getElem?_cons_succ, List.getElem?_cons_zero, List.map_cons, List.map_nil, List.drop_succ_cons, List.drop_zero]
  repeat ((with_reducible refine wpMix_read ?_ (fun K hK => ?_)); (focus rfl); apply Exists.intro; refine ⟨fun w' hS => ?_, ?_⟩; (focus (try dsimp only at hS; go_simp; try rfl)); go_simp; refine hK _ ?_; clear hK K)
  refine wpMix_act rfl (fun K hK => ?_)
  go_simp
  have hO' : OutAt w0.drew (w.heap.size + 1) (w.heap.size + 1) [] := ⟨hO.ge, hO.row⟩
  have hz' : w0.drew.heap.size = w.heap.size + 1 + 1 := hsz
  have hb0' := blk_drew hb0
  have hbel' := hbel.drew
  clear hO hsz hb0 hbel hc
  generalize w0.drew = w1 at *
  refine (out_num (w.heap.size + 1) (w.heap.size + 1) [] e 4 (by decide) (by decide) (by simp) w1 hO' (by omega)).mono ?_
  rintro en w2 ⟨rfl, hO2, hb2⟩
  have hB2 := blk_below hb0' hb2 (by omega)
  refine hK _ _ (cell_blk hB2) ?_; clear hK K
  repeat ((with_reducible refine wpMix_read ?_ (fun K hK => ?_)); (focus rfl); apply Exists.intro; refine ⟨fun w' hS => ?_, ?_⟩; (focus (try dsimp only at hS; go_simp; try rfl)); go_simp; refine hK _ ?_; clear hK K)
  refine wpMix_act rfl (fun K hK => ?_)
  go_simp
  refine (out_num (w.heap.size + 1) (w.heap.size + 1) _ q 4 (by decide) (by decide) (by simp [numB_length]) w2 hO2 (by have := hb2.size; omega)).mono ?_
  rintro en w3 ⟨rfl, hO3, hb3⟩
  have hB3 := blk_below hB2 hb3 (by omega)
  refine hK _ _ (cell_blk hB3) ?_; clear hK K
  repeat ((with_reducible refine wpMix_read ?_ (fun K hK => ?_)); (focus rfl); apply Exists.intro; refine ⟨fun w' hS => ?_, ?_⟩; (focus (try dsimp only at hS; go_simp; try rfl)); go_simp; refine hK _ ?_; clear hK K)
  refine wpMix_act rfl (fun K hK => ?_)
  go_simp
  refine (out_bytes _ _ _ _ hO3).mono ?_
  rintro en w4 ⟨rfl, rfl⟩
  refine hK _ _ (cell_blk hB3) ?_; clear hK K
  refine wpMix_nil ?_
  have HH := Lib.hid (show Below w.heap.size w w3 from (hbel'.trans (hb2.mono (by omega))).trans (hb3.mono (by omega)))
  clear hb2 hb3 hB2 hB3 hO' hO2 hO3 hb0' hbel' hz'
  go_wp2_with fail
  go_ret
  exact ⟨rfl, HH.out⟩

/-- A frame. -/
def frameB (e q : Nat) (t : List UInt8) : List UInt8 := filled (stampB e q ++ numB t.length 1 ++ t) 56 ++ stampB e q
theorem frameB_length (e q : Nat) (t : List UInt8) (h : t.length ≤ 47) : (frameB e q t).length = 64 := by
  simp [frameB, filled, zeros, stampB_length, numB_length]; omega

theorem stamp_frame (e q : Nat) (he : e < 4294967296) (hq : q < 4294967296) (t : List UInt8) (ht : t.length ≤ 47) (w : World) :
    Calls Tryz.prog 154 #[stampV e q, .string (bstr t)] w fun en w' => en = .returned (.string (bstr (frameB e q t))) ∧ Below w.heap.size w w' := by
  have hz := size_bstr t
  have hst := fun W => stamp_bytes e q he hq W
  have h1 := u64_in t.length (by omega)
  have hlt : decide (47 < (t.length : Int)) = false := by simp; omega
  have HE := Lib.hid he
  have HQ := Lib.hid hq
  have HT := Lib.hid ht
  have HS := Lib.hid hst
  clear he hq ht hst
  go_enter Tryz.func154, Tryz.ntmps154
  go_wp2_with fail
  have hb0 := blk_alloc (o' := Obj.cells #[.slice none 0 0] 182) (blk_new (w := w) (o := Obj.cells #[.int .u32 (e : Int), .int .u32 (q : Int)] 223) rfl)
  have hO : OutAt ((w.alloc (Obj.cells #[.int .u32 (e : Int), .int .u32 (q : Int)] 223)).alloc (Obj.cells #[.slice none 0 0] 182)) (w.heap.size + 1) (w.heap.size + 1) [] :=
    ⟨Nat.le_refl _, .slice none 0 0, blk_new (by simp), by simp [bcells], .inl ⟨rfl, rfl⟩⟩
  have hsz : ((w.alloc (Obj.cells #[.int .u32 (e : Int), .int .u32 (q : Int)] 223)).alloc (Obj.cells #[.slice none 0 0] 182)).heap.size = w.heap.size + 1 + 1 := by simp
  have hbel : Below w.heap.size w ((w.alloc (Obj.cells #[.int .u32 (e : Int), .int .u32 (q : Int)] 223)).alloc (Obj.cells #[.slice none 0 0] 182)) := ((Below.refl _ w).alloc (Nat.le_refl _) _).alloc (by simp) _
  generalize ((w.alloc (Obj.cells #[.int .u32 (e : Int), .int .u32 (q : Int)] 223)).alloc (Obj.cells #[.slice none 0 0] 182)) = w0 at *
  refine (HS.out w0).mono ?_
  rintro en w1 ⟨rfl, hb1⟩
  have hb01 := blk_below hb0 hb1 (by omega)
  have hO1 : OutAt w1 (w.heap.size + 1) (w.heap.size + 1) [] := by
    obtain ⟨g1, v, g2, g3⟩ := hO
    exact ⟨g1, v, blk_below g2 hb1 (lt_of_blk g2), ownsRow_fr g3 (Fr.of_below (F := fun _ => False) hb1) (fun _ _ h => h)⟩
  have hbel1 := hbel.trans (hb1.mono (by omega))
  have hz1 := hb1.size
  have HB := Lib.hid hb01
  have HO := Lib.hid hO1
  have HL := Lib.hid hbel1
  clear hb0 hO hbel hb1 hb01 hO1 hbel1
  go_wp2_with fail
  refine (out_text (w.heap.size + 1) (w.heap.size + 1) [] (bstr (stampB e q)) (by rw [size_bstr, stampB_length]; decide) w1 HO.out (by omega)).mono ?_
  rw [data_bstr, List.nil_append]
  rintro en w2 ⟨rfl, hO2, hb2⟩
  have hz2 := hb2.size
  have HB := Lib.hid (blk_below HB.out hb2 (by omega))
  have HO := Lib.hid hO2
  have HL := Lib.hid (HL.out.trans (hb2.mono (by omega)))
  clear hO2 hb2
  go_wp2_with fail
  refine (out_num (w.heap.size + 1) (w.heap.size + 1) _ t.length 1 (by decide) (by decide) (by rw [stampB_length]; decide) w2 HO.out (by omega)).mono ?_
  rintro en w3 ⟨rfl, hO3, hb3⟩
  have hz3 := hb3.size
  have HB := Lib.hid (blk_below HB.out hb3 (by omega))
  have HO := Lib.hid hO3
  have HL := Lib.hid (HL.out.trans (hb3.mono (by omega)))
  clear hO3 hb3
  go_wp2_with fail
  refine (out_text (w.heap.size + 1) (w.heap.size + 1) _ (bstr t) (by rw [size_bstr, List.length_append, stampB_length, numB_length]; have := HT.out; omega) w3 HO.out (by omega)).mono ?_
  rw [data_bstr]
  rintro en w4 ⟨rfl, hO4, hb4⟩
  have hz4 := hb4.size
  have HB := Lib.hid (blk_below HB.out hb4 (by omega))
  have HO := Lib.hid hO4
  have HL := Lib.hid (HL.out.trans (hb4.mono (by omega)))
  clear hO4 hb4
  go_wp2_with fail
  have hcx := cell_blk HB.out
  refine wp_region_perm 5 (fun w' => ∀ i, w'.cell? ⟨w.heap.size, i, none⟩ = #[.int .u32 (e : Int), .int .u32 (q : Int)][i]?) [(1, true), (0, false), (2, false), (3, false), (4, false)] (by kernel_rfl) (by kernel_rfl) ?_ (by intro c a d v w h; cases d <;> exact h) ?_
  · exact hcx
  simp only [pickOps, List.getElem?_cons_succ, List.getElem?_cons_zero, List.map_cons, List.map_nil, List.drop_succ_cons, List.drop_zero]
  repeat ((with_reducible refine wpMix_read ?_ (fun K hK => ?_)); (focus rfl); apply Exists.intro; refine ⟨fun w' hS => ?_, ?_⟩; (focus (try dsimp only at hS; go_simp; try rfl)); go_simp; refine hK _ ?_; clear hK K)
  refine wpMix_act rfl (fun K hK => ?_)
  go_simp
  have hO5 : OutAt w4.drew (w.heap.size + 1) (w.heap.size + 1) _ := ⟨HO.out.ge, HO.out.row⟩
  have hb5 := blk_drew HB.out
  have hl5 := HL.out.drew
  have hz5 : w.heap.size + 1 + 1 ≤ w4.drew.heap.size := by show _ ≤ w4.heap.size; omega
  clear hcx HB HO HL
  generalize w4.drew = w5 at *
  refine (out_fill (w.heap.size + 1) (w.heap.size + 1) _ 56 (by rw [List.length_append, List.length_append, stampB_length, numB_length]; have := HT.out; omega) (by decide) w5 hO5 (by omega)).mono ?_
  rintro en w6 ⟨rfl, hO6, hb6⟩
  have hz6 := hb6.size
  have hc6 := blk_below hb5 hb6 (by omega)
  have hl6 := hl5.trans (hb6.mono (by omega))
  refine hK _ _ (cell_blk hc6) ?_; clear hK K
  repeat ((with_reducible refine wpMix_read ?_ (fun K hK => ?_)); (focus rfl); apply Exists.intro; refine ⟨fun w' hS => ?_, ?_⟩; (focus (try dsimp only at hS; go_simp; try rfl)); go_simp; refine hK _ ?_; clear hK K)
  refine wpMix_act rfl (fun K hK => ?_)
  go_simp
  refine (HS.out w6).mono ?_
  rintro en w7 ⟨rfl, hb7⟩
  have hz7 := hb7.size
  have hc7 := blk_below hc6 hb7 (by omega)
  have hl7 := hl6.trans (hb7.mono (by omega))
  have hO7 : OutAt w7 (w.heap.size + 1) (w.heap.size + 1) (filled (stampB e q ++ numB t.length 1 ++ t) 56) := by
    obtain ⟨g1, v, g2, g3⟩ := hO6
    exact ⟨g1, v, blk_below g2 hb7 (lt_of_blk g2), ownsRow_fr g3 (Fr.of_below (F := fun _ => False) hb7) (fun _ _ h => h)⟩
  refine hK _ _ (cell_blk hc7) ?_; clear hK K
  repeat ((with_reducible refine wpMix_read ?_ (fun K hK => ?_)); (focus rfl); apply Exists.intro; refine ⟨fun w' hS => ?_, ?_⟩; (focus (try dsimp only at hS; go_simp; try rfl)); go_simp; refine hK _ ?_; clear hK K)
  refine wpMix_act rfl (fun K hK => ?_)
  go_simp
  have hfl : (filled (stampB e q ++ numB t.length 1 ++ t) 56).length ≤ 100 := by simp [filled, zeros, stampB_length, numB_length]; have := HT.out; omega
  refine (out_text (w.heap.size + 1) (w.heap.size + 1) _ (bstr (stampB e q)) (by rw [size_bstr, stampB_length]; omega) w7 hO7 (by omega)).mono ?_
  rw [data_bstr]
  rintro en w8 ⟨rfl, hO8, hb8⟩
  have hz8 := hb8.size
  have hc8 := blk_below hc7 hb8 (by omega)
  have hl8 := hl7.trans (hb8.mono (by omega))
  refine hK _ _ (cell_blk hc8) ?_; clear hK K
  repeat ((with_reducible refine wpMix_read ?_ (fun K hK => ?_)); (focus rfl); apply Exists.intro; refine ⟨fun w' hS => ?_, ?_⟩; (focus (try dsimp only at hS; go_simp; try rfl)); go_simp; refine hK _ ?_; clear hK K)
  refine wpMix_act rfl (fun K hK => ?_)
  go_simp
  refine (out_bytes _ _ _ _ hO8).mono ?_
  rintro en w9 ⟨rfl, rfl⟩
  refine hK _ _ (cell_blk hc8) ?_; clear hK K
  refine wpMix_nil ?_
  have HH := Lib.hid hl8
  clear hb5 hb6 hb7 hb8 hc6 hc7 hc8 hl5 hl6 hl7 hl8 hO5 hO6 hO7 hO8 hfl
  go_wp2_with fail
  go_ret
  exact ⟨rfl, HH.out⟩
end Go.Proofs.YtajojhfialbfkaaGreatDoor
/- Layer 5: stamps: reading. -/
namespace Go.Proofs.YtajojhfialbfkaaGreatDoor
open Go.RowKit
set_option maxRecDepth 100000

theorem u32_in (n : Nat) (h : n < 4294967296) : IntKind.u32.wrap (n : Int) = (n : Int) := by
  have h0 : IntKind.u32.bits = 32 := rfl
  have h1 : IntKind.u32.signed = false := rfl
  simp only [IntKind.wrap, h0, h1, Bool.false_and, Bool.false_eq_true, if_false]
  omega

theorem stamp_of (l : List UInt8) (hl : l.length = 64) (w : World) :
    Calls Tryz.prog 200 #[.string (bstr l)] w fun en w' => en = .returned (stampV (beNat (l.take 4)) (beNat ((l.drop 4).take 4))) ∧ Below w.heap.size w w' := by
  have hz := size_bstr l
  rw [hl] at hz
  have hb1 := beNat_lt (l.take 4)
  rw [List.length_take, show min 4 l.length = 4 by omega] at hb1
  have hb2 := beNat_lt ((l.drop 4).take 4)
  rw [List.length_take, List.length_drop, show min 4 (l.length - 4) = 4 by omega] at hb2
  have hw1 := u32_in _ hb1
  have hw2 := u32_in _ hb2
  have HL := Lib.hid hl
  clear hb1 hb2 hl
  go_enter Tryz.func200, Tryz.ntmps200
  go_wp2_with fail
  refine (in_read l _).mono ?_
  rintro en w1 ⟨rfl, rfl⟩
  have hsz : (w.alloc (Obj.cells #[.int .u32 0, .int .u32 0] 223)).heap.size = w.heap.size + 1 := by simp
  have hb0 := blk_alloc (o' := Obj.cells #[.string (bstr l)] 287) (blk_new (w := w) (o := Obj.cells #[.int .u32 0, .int .u32 0] 223) rfl)
  have hI : InAt ((w.alloc (Obj.cells #[.int .u32 0, .int .u32 0] 223)).alloc (Obj.cells #[.string (bstr l)] 287)) (w.heap.size + 1) l := blk_new (by simp)
  have hbel : Below w.heap.size w ((w.alloc (Obj.cells #[.int .u32 0, .int .u32 0] 223)).alloc (Obj.cells #[.string (bstr l)] 287)) := ((Below.refl _ w).alloc (Nat.le_refl _) _).alloc (by simp) _
  rw [hsz]
  generalize ((w.alloc (Obj.cells #[.int .u32 0, .int .u32 0] 223)).alloc (Obj.cells #[.string (bstr l)] 287)) = w1 at *
  have HI := Lib.hid hI
  have HB := Lib.hid hb0
  have HL1 := Lib.hid hbel
  clear hsz hb0 hI hbel
  go_wp2_with fail
  refine (in_num (w.heap.size + 1) l 4 (by decide) (by decide) (by have := HL.out; omega) (by have := HL.out; omega) w1 HI.out).mono ?_
  rintro en w2 ⟨rfl, hI, hF⟩
  have HI := Lib.hid hI
  have HB := Lib.hid (hF.blk HB.out (by omega))
  have HL1 := Lib.hid (HL1.out.trans (hF.below (fun x _ e => by omega) (by have := HL1.out.size; omega)))
  clear hI hF
  go_wp2_with fail
  refine (in_num (w.heap.size + 1) (l.drop 4) 4 (by decide) (by decide) (by rw [List.length_drop]; have := HL.out; omega) (by rw [List.length_drop]; have := HL.out; omega) w2 HI.out).mono ?_
  rintro en w3 ⟨rfl, hI, hF⟩
  have HL1 := Lib.hid (HL1.out.trans (hF.below (fun x _ e => by omega) (by have := HL1.out.size; omega)))
  have hb := hF.blk HB.out (by omega)
  have hc := cell_blk hb
  have hf := frozen_blk hb
  have hb2 := blk_set (i := 1) (v := .int .u32 (beNat ((l.drop 4).take 4) : Int)) (blk_set (i := 0) (v := .int .u32 (beNat (l.take 4) : Int)) hb)
  simp only [List.setIfInBounds_toArray, List.set_cons_zero, List.set_cons_succ] at hb2
  have hc2 := Lib.hid (cell_blk hb2)
  clear hI hF hb hb2
  go_wp2_with fail
  have hc2 := hc2.out
  exact bodyPost_ret (v := stampV (beNat (l.take 4)) (beNat ((l.drop 4).take 4))) (by simp [results, Tryz.results200, go_sem, hc2]) rfl ⟨rfl, (HL1.out.setCell (Nat.le_refl _) _).setCell (Nat.le_refl _) _⟩

/-- A frame's bytes, if it is whole. -/
def openB (e q : Nat) (l : List UInt8) : Option (List UInt8) :=
  if Lib.hasPrefix l (stampB e q) = true ∧ Lib.hasSuffix l (stampB e q) = true ∧ (l[8]?.getD 0).toNat ≤ 47 ∧ Lib.trimB ((l.drop (9 + (l[8]?.getD 0).toNat)).take (47 - (l[8]?.getD 0).toNat)) 0 = [] then
    some ((l.drop 9).take (l[8]?.getD 0).toNat) else none

def openV : Option (List UInt8) → Value
  | some t => .tuple #[.string (bstr t), .bool true]
  | none => .tuple #[.string ByteArray.empty, .bool false]

theorem prefix_b (l p : List UInt8) (w : World) : Calls Tryz.prog 68 #[.string (bstr l), .string (bstr p)] w fun e w' => e = .returned (.bool (Lib.hasPrefix l p)) ∧ w = w' := by
  refine (Tryz.strings_HasPrefix (bstr l) (bstr p) w).mono ?_
  rintro e w' ⟨rfl, rfl⟩
  rw [data_bstr, data_bstr]
  exact ⟨rfl, rfl⟩
theorem suffix_b (l p : List UInt8) (hl : l.length ≤ 1000000) (w : World) : Calls Tryz.prog 245 #[.string (bstr l), .string (bstr p)] w fun e w' => e = .returned (.bool (Lib.hasSuffix l p)) ∧ w = w' := by
  refine (Tryz.strings_HasSuffix (bstr l) (bstr p) w (by rw [size_bstr]; omega)).mono ?_
  rintro e w' ⟨rfl, rfl⟩
  rw [data_bstr, data_bstr]
  exact ⟨rfl, rfl⟩
theorem trim_b (l : List UInt8) (hl : l.length ≤ 1000000) (w : World) : Calls Tryz.prog 225 #[.string (bstr l), .string ⟨#[0]⟩] w fun e w' => e = .returned (.string (bstr (Lib.trimB l 0))) ∧ (w' = w ∨ w' = w.drew) := by
  refine (Tryz.strings_Trim_one (bstr l) 0 (by decide) w (by rw [size_bstr]; omega)).mono ?_
  rintro e w' ⟨rfl, h⟩
  rw [data_bstr]
  exact ⟨rfl, h⟩

theorem stamp_open (e q : Nat) (he : e < 4294967296) (hq : q < 4294967296) (l : List UInt8) (hl : l.length = 64) (w : World) :
    Calls Tryz.prog 201 #[stampV e q, .string (bstr l)] w fun en w' => en = .returned (openV (openB e q l)) ∧ Below w.heap.size w w' := by
  have hz := size_bstr l
  rw [hl] at hz
  have hst := fun W => stamp_bytes e q he hq W
  have HL := Lib.hid hl
  have HS := Lib.hid hst
  clear hl hst he hq
  go_enter Tryz.func201, Tryz.ntmps201
  go_wp2_with fail
  have hb0 := blk_new (w := w) (o := Obj.cells #[.int .u32 (e : Int), .int .u32 (q : Int)] 223) rfl
  have hbel : Below w.heap.size w (w.alloc (Obj.cells #[.int .u32 (e : Int), .int .u32 (q : Int)] 223)) := (Below.refl _ w).alloc (Nat.le_refl _) _
  have hsz : w.heap.size < (w.alloc (Obj.cells #[.int .u32 (e : Int), .int .u32 (q : Int)] 223)).heap.size := by simp
  generalize w.alloc (Obj.cells #[.int .u32 (e : Int), .int .u32 (q : Int)] 223) = w1 at *
  refine (HS.out w1).mono ?_
  rintro en w2 ⟨rfl, hb2⟩
  have HB := Lib.hid (blk_below hb0 hb2 hsz)
  have HW := Lib.hid (hbel.trans (hb2.mono (by omega)))
  have hz2 := hb2.size
  clear hb0 hb2 hbel
  go_wp2_with fail
  refine (prefix_b l (stampB e q) w2).mono ?_
  rintro en w3 ⟨rfl, rfl⟩
  by_cases hp : Lib.hasPrefix l (stampB e q) = true
  · rw [hp]
    have HP := Lib.hid hp
    have hcx := cell_blk HB.out
    clear hp
    go_wp2_with fail
    refine (HS.out w2).mono ?_
    rintro en w3 ⟨rfl, hb3⟩
    have HB := Lib.hid (blk_below HB.out hb3 (by omega))
    have HW := Lib.hid (HW.out.trans (hb3.mono (by omega)))
    clear hb3 hcx
    go_wp2_with fail
    refine (suffix_b l (stampB e q) (by have := HL.out; omega) w3).mono ?_
    rintro en w4 ⟨rfl, rfl⟩
    by_cases hs : Lib.hasSuffix l (stampB e q) = true
    · rw [hs]
      have HSu := Lib.hid hs
      clear hs
      obtain ⟨n, hN⟩ : ∃ n, n = (l[8]?.getD 0).toNat := ⟨_, rfl⟩
      have hl8 : 8 < l.length := by have := HL.out; omega
      have hn : ((bstr l)[8]'(by rw [hz]; decide)).toNat = n := by
        rw [hN, List.getElem?_eq_getElem hl8]; rfl
      have hn2 : n < 256 := by rw [← hn]; exact UInt8.toNat_lt _
      have hwn : IntKind.i64.wrap (n : Int) = (n : Int) := IntWalk.i64_in _ (by omega)
      have hw9 : IntKind.i64.wrap (9 + (n : Int)) = ((9 + n : Nat) : Int) := by rw [IntWalk.i64_in _ (by omega)]; simp
      have HN := Lib.hid hN
      clear hN hl8
      rcases Nat.lt_or_ge 47 n with hbig | hle
      · have hd : decide ((47 : Int) < (n : Int)) = true := by simp; omega
        go_wp2_with fail
        go_ret2
        refine ⟨?_, HW.out⟩
        unfold openB
        rw [← HN.out, if_neg (by rintro ⟨_, _, h, _⟩; omega)]
        rfl
      · have hd : decide ((47 : Int) < (n : Int)) = false := by simp; omega
        have he56 : (bstr l).extract (9 + n) 56 = bstr ((l.drop (9 + n)).take (47 - n)) := by
          rw [extract_bstr, show 56 - (9 + n) = 47 - n by omega]
        have he9 : (bstr l).extract 9 (9 + n) = bstr ((l.drop 9).take n) := by
          rw [extract_bstr, show 9 + n - 9 = n by omega]
        go_wp2_with fail
        refine (trim_b _ (by rw [List.length_take]; omega) w3).mono ?_
        rintro en w4 ⟨rfl, hw4⟩
        have HW4 := Lib.hid (show Below w.heap.size w w4 from by rcases hw4 with rfl | rfl; exact HW.out; exact HW.out.drew)
        have etl := toList_bstr (Lib.trimB ((l.drop (9 + n)).take (47 - n)) 0)
        by_cases hz0 : Lib.trimB ((l.drop (9 + n)).take (47 - n)) 0 = []
        · rw [hz0]
          have HZ := Lib.hid hz0
          have e0 := toList_bstr []
          clear hz0 etl hw4
          go_wp2_with fail
          go_ret2
          refine ⟨?_, HW4.out⟩
          unfold openB
          rw [← HN.out, if_pos ⟨HP.out, HSu.out, hle, HZ.out⟩]
          exact congrArg (fun x => Ending.returned (.tuple #[.string x, .bool true])) he9
        · have HZ := Lib.hid hz0
          have hem : (!(bstr (Lib.trimB ((l.drop (9 + n)).take (47 - n)) 0)).toList.isEmpty) = true := by
            rw [toList_bstr]
            cases h : Lib.trimB ((l.drop (9 + n)).take (47 - n)) 0 with
            | nil => exact absurd h hz0
            | cons _ _ => rfl
          clear hz0 etl hw4
          go_wp2_with fail
          go_ret2
          refine ⟨?_, HW4.out⟩
          unfold openB
          rw [← HN.out, if_neg (by rintro ⟨_, _, _, h⟩; exact HZ.out h)]
          rfl
    · have hs' : Lib.hasSuffix l (stampB e q) = false := by simpa using hs
      rw [hs']
      have HSu := Lib.hid hs'
      clear hs hs'
      go_wp2_with fail
      go_ret2
      refine ⟨?_, HW.out⟩
      unfold openB
      rw [if_neg (by rintro ⟨_, h, _⟩; rw [HSu.out] at h; cases h)]
      rfl
  · have hp' : Lib.hasPrefix l (stampB e q) = false := by simpa using hp
    rw [hp']
    have HP := Lib.hid hp'
    clear hp hp'
    go_wp2_with fail
    go_ret2
    refine ⟨?_, HW.out⟩
    unfold openB
    rw [if_neg (by rintro ⟨h, _⟩; rw [HP.out] at h; cases h)]
    rfl
end Go.Proofs.YtajojhfialbfkaaGreatDoor
/- Maps as functions: a block that is a map, what it answers, what an update makes of it. -/
namespace Go.Proofs.YtajojhfialbfkaaGreatDoor
open Go.RowKit Go.Maps Go.MapKept Go.ChangeMaps

/-- A key's kind: how keys are spelled. -/
structure KeyKind (P : Program) (k : TypeId) {α : Type} (ke : α → Value) (ok : α → Prop) : Prop where
  law : Keyed P k
  key : ∀ a, ok a → ∃ l, keyOf P k (ke a) = some l
  inj : ∀ a b, ke a = ke b → a = b

section
variable {α β : Type} {P : Program} {k : TypeId} {ke : α → Value} {ve : β → Value} {ok : α → Prop} {w : World} {b : Nat} {f : α → Option β}

/-- The block b is a map that holds f. -/
def MapIs (ke : α → Value) (ve : β → Value) (ok : α → Prop) (w : World) (b : Nat) (f : α → Option β) : Prop :=
  ∃ es clock, w.heap[b]? = some (.map es clock) ∧ Stamped es clock ∧
    (∀ x ∈ es.toList, ∃ a c, ok a ∧ x.key = ke a ∧ x.val = ve c ∧ f a = some c) ∧ (∀ a c, f a = some c → ok a ∧ ∃ x ∈ es.toList, x.key = ke a)

def mput [DecidableEq α] (f : α → Option β) (a : α) (c : Option β) : α → Option β := fun x => if x = a then c else f x

theorem MapIs.fr {F : Nat → Prop} {w' : World} (h : MapIs ke ve ok w b f) (hf : Fr F w w') (hn : ¬ F b) : MapIs ke ve ok w' b f := by
  obtain ⟨es, clock, hb, h1, h2, h3⟩ := h
  exact ⟨es, clock, hf.blk hb hn, h1, h2, h3⟩
theorem MapIs.lt (h : MapIs ke ve ok w b f) : b < w.heap.size := by
  obtain ⟨es, clock, hb, _⟩ := h
  exact lt_of_blk hb
theorem mapIs_new (w : World) : MapIs ke ve ok (w.alloc (.map #[] 0)) w.heap.size (fun _ => none) :=
  ⟨#[], 0, blk_alloc_new _ _, MapKept.stamped_empty 0, by simp, by simp⟩

theorem MapIs.entry (K : KeyKind P k ke ok) {es : Array MapEntry} (h2 : ∀ x ∈ es.toList, ∃ a c, ok a ∧ x.key = ke a ∧ x.val = ve c ∧ f a = some c) {x : MapEntry} (hx : x ∈ es.toList) {a : α} (hk : x.key = ke a) : ∃ c, x.val = ve c ∧ f a = some c := by
  obtain ⟨a', c, _, hk', hv, hf⟩ := h2 x hx
  have := K.inj _ _ (hk.symm.trans hk')
  subst this
  exact ⟨c, hv, hf⟩

theorem MapIs.look (h : MapIs ke ve ok w b f) (K : KeyKind P k ke ok) {t e : TypeId} (ht : P.underlying t = some (.map k e)) {z : Value} (hz : (zeroValue e).run P w = .ok z w) (a : α) (ha : ok a) (c : Bool) :
    (Instr.lookup t (.map (some b)) (ke a) c).run P w = .ok (if c then .tuple #[((f a).map ve).getD z, .bool (f a).isSome] else ((f a).map ve).getD z) w := by
  obtain ⟨es, clock, hb, h1, h2, h3⟩ := h
  obtain ⟨l, hkey⟩ := K.key a ha
  have hks : ∀ x ∈ es.toList, ∃ l, keyOf P k x.key = some l := fun x hx => by
    obtain ⟨a', _, hok, hk', _⟩ := h2 x hx
    rw [hk']; exact K.key a' hok
  rcases K.law.find w hkey es.toList hks with ⟨q1, q2⟩ | ⟨j, e0, q1, q2, q3⟩
  · have hf : f a = none := by
      cases hc : f a with
      | none => rfl
      | some c =>
        obtain ⟨_, x, hx, hk⟩ := h3 a c hc
        exact absurd hk (q2 x hx)
    rw [hf]
    simp [Instr.lookup, run_underlying ht, MapKept.run_getObj_map hb, K.law.check w _ hkey, q1, hz, Result.andThen]
  · obtain ⟨c, hv, hf⟩ := MapIs.entry K h2 (List.mem_of_getElem? q2) q3
    rw [hf]
    simp [Instr.lookup, run_underlying ht, MapKept.run_getObj_map hb, K.law.check w _ hkey, q1, hv, Result.andThen]

theorem setBlock_fr (w : World) (b : Nat) (o : Obj) : Fr (fun k => k = b) w (setBlock w b o) := by
  refine ⟨rfl, rfl, rfl, by simp [setBlock], fun k hk hn => ?_⟩
  simp [setBlock, Ne.symm hn]
theorem setBlock_blk {w : World} {b : Nat} (o : Obj) (h : b < w.heap.size) : (setBlock w b o).heap[b]? = some o := by
  simp [setBlock, h]

theorem MapIs.put [DecidableEq α] (h : MapIs ke ve ok w b f) (K : KeyKind P k ke ok) {t e : TypeId} (ht : P.underlying t = some (.map k e)) (a : α) (ha : ok a) (c : β) :
    ∃ w', (Instr.mapUpdate t (.map (some b)) (ke a) (ve c)).run P w = .ok () w' ∧ MapIs ke ve ok w' b (mput f a (some c)) ∧ Fr (fun k => k = b) w w' := by
  obtain ⟨es, clock, hb, h1, h2, h3⟩ := h
  obtain ⟨l, hkey⟩ := K.key a ha
  have hks : ∀ x ∈ es.toList, ∃ l, keyOf P k x.key = some l := fun x hx => by
    obtain ⟨a', _, hok, hk', _⟩ := h2 x hx
    rw [hk']; exact K.key a' hok
  rcases K.law.find w hkey es.toList hks with ⟨q1, q2⟩ | ⟨j, e0, q1, q2, q3⟩
  · refine ⟨setBlock w b (.map (es.push ⟨ke a, ve c, clock⟩) (clock + 1)), ?_, ⟨_, _, setBlock_blk _ (lt_of_blk hb), MapKept.stamped_push h1 q2, ?_, ?_⟩, setBlock_fr _ _ _⟩
    · simp [Instr.mapUpdate, run_underlying ht, MapKept.run_getObj_map hb, K.law.check w false hkey, q1, MapKept.run_setObj_map _ hb, Result.andThen, setBlock]
    · intro x hx
      simp only [Array.toList_push, List.mem_append, List.mem_singleton] at hx
      rcases hx with hx | rfl
      · obtain ⟨a', c', hok, hk', hv, hf⟩ := h2 x hx
        refine ⟨a', c', hok, hk', hv, ?_⟩
        have : a' ≠ a := fun e => q2 x hx (by rw [hk', e])
        simp [mput, this, hf]
      · exact ⟨a, c, ha, rfl, rfl, by simp [mput]⟩
    · intro a' c' hf
      by_cases haa : a' = a
      · subst haa
        exact ⟨ha, ⟨ke a', ve c, clock⟩, by simp, rfl⟩
      · simp only [mput, haa, if_false] at hf
        obtain ⟨hok, x, hx, hk⟩ := h3 a' c' hf
        exact ⟨hok, x, by simp [hx], hk⟩
  · have hj : es[j]? = some e0 := by simpa using q2
    have hkeyf : ∀ e', es[j]? = some e' → ({ e' with key := ke a, val := ve c } : MapEntry).key = e'.key := fun e' he' => by rw [hj] at he'; cases he'; exact q3.symm
    refine ⟨setBlock w b (.map (es.modify j (fun e' => { e' with key := ke a, val := ve c })) clock), ?_, ⟨_, _, setBlock_blk _ (lt_of_blk hb), MapKept.stamped_modify h1 _ _ (fun _ _ => rfl) (fun e' _ he' => hkeyf e' he'), ?_, ?_⟩, setBlock_fr _ _ _⟩
    · simp [Instr.mapUpdate, run_underlying ht, MapKept.run_getObj_map hb, K.law.check w false hkey, q1, hj, q3, K.law.stays w hkey, MapKept.run_setObj_map _ hb, Result.andThen, setBlock]
    · intro x hx
      rw [Array.toList_modify] at hx
      obtain ⟨i, hi⟩ := List.mem_iff_getElem?.1 hx
      rw [List.getElem?_modify] at hi
      by_cases hij : j = i
      · subst hij
        rw [q2] at hi
        simp at hi
        subst hi
        exact ⟨a, c, ha, rfl, rfl, by simp [mput]⟩
      · have hi' : es.toList[i]? = some x := by
          cases hq : es.toList[i]? with
          | none => rw [hq] at hi; simp at hi
          | some y => rw [hq] at hi; simpa [hij] using hi
        obtain ⟨a', c', hok, hk', hv, hf⟩ := h2 x (List.mem_of_getElem? hi')
        refine ⟨a', c', hok, hk', hv, ?_⟩
        have : a' ≠ a := by
          rintro rfl
          have hst := (MapKept.stamped_iff es clock).1 h1
          have hp := List.pairwise_iff_getElem.1 hst.2.2
          obtain ⟨hil, hie⟩ := List.getElem?_eq_some_iff.1 hi'
          obtain ⟨hjl, hje⟩ := List.getElem?_eq_some_iff.1 q2
          rcases Nat.lt_or_gt_of_ne hij with hlt | hlt
          · exact hp j i hjl hil hlt (by rw [hje, hie, q3, hk'])
          · exact hp i j hil hjl hlt (by rw [hje, hie, q3, hk'])
        simp [mput, this, hf]
    · intro a' c' hf
      by_cases haa : a' = a
      · subst haa
        refine ⟨ha, { e0 with key := ke a', val := ve c }, ?_, rfl⟩
        rw [Array.toList_modify]
        exact List.mem_iff_getElem?.2 ⟨j, by rw [List.getElem?_modify, q2]; simp⟩
      · simp only [mput, haa, if_false] at hf
        obtain ⟨hok, x, hx, hk⟩ := h3 a' c' hf
        refine ⟨hok, x, ?_, hk⟩
        obtain ⟨i, hi⟩ := List.mem_iff_getElem?.1 hx
        rw [Array.toList_modify]
        refine List.mem_iff_getElem?.2 ⟨i, ?_⟩
        rw [List.getElem?_modify, hi]
        have : j ≠ i := by
          rintro rfl
          rw [q2] at hi
          injection hi with hi
          subst hi
          exact haa (K.inj _ _ (hk.symm.trans q3))
        simp [this]

theorem MapIs.del [DecidableEq α] (h : MapIs ke ve ok w b f) (K : KeyKind P k ke ok) {t e : TypeId} (ht : P.underlying t = some (.map k e)) (a : α) (ha : ok a) :
    ∃ w', (∀ ty, (Builtin.delete_ #[t, k] ty #[.map (some b), ke a]).run P w = .ok (.tuple #[]) w') ∧ MapIs ke ve ok w' b (mput f a none) ∧ Fr (fun k => k = b) w w' := by
  obtain ⟨es, clock, hb, h1, h2, h3⟩ := h
  obtain ⟨l, hkey⟩ := K.key a ha
  have hks : ∀ x ∈ es.toList, ∃ l, keyOf P k x.key = some l := fun x hx => by
    obtain ⟨a', _, hok, hk', _⟩ := h2 x hx
    rw [hk']; exact K.key a' hok
  rcases K.law.find w hkey es.toList hks with ⟨q1, q2⟩ | ⟨j, e0, q1, q2, q3⟩
  · refine ⟨setBlock w b (.map es clock), ?_, ⟨_, _, setBlock_blk _ (lt_of_blk hb), h1, ?_, ?_⟩, setBlock_fr _ _ _⟩
    · intro ty; simp [Builtin.delete_, run_underlying ht, MapKept.run_getObj_map hb, K.law.check w _ hkey, q1, MapKept.run_setObj_map _ hb, Result.andThen, setBlock]
    · intro x hx
      obtain ⟨a', c', hok, hk', hv, hf⟩ := h2 x hx
      refine ⟨a', c', hok, hk', hv, ?_⟩
      have : a' ≠ a := fun e => q2 x hx (by rw [hk', e])
      simp [mput, this, hf]
    · intro a' c' hf
      by_cases haa : a' = a
      · simp [mput, haa] at hf
      · simp only [mput, haa, if_false] at hf
        exact h3 a' c' hf
  · have hjl : j < es.toList.length := (List.getElem?_eq_some_iff.1 q2).1
    have hjs : j < es.size := by simpa using hjl
    have hsub : (es.eraseIdxIfInBounds j).toList = es.toList.eraseIdx j := by
      unfold Array.eraseIdxIfInBounds
      rw [dif_pos hjs]
      simp
    refine ⟨setBlock w b (.map (es.eraseIdxIfInBounds j) clock), ?_, ⟨_, _, setBlock_blk _ (lt_of_blk hb), MapKept.stamped_erase h1 j, ?_, ?_⟩, setBlock_fr _ _ _⟩
    · intro ty; simp [Builtin.delete_, run_underlying ht, MapKept.run_getObj_map hb, K.law.check w _ hkey, q1, MapKept.run_setObj_map _ hb, Result.andThen, setBlock]
    · intro x hx
      rw [hsub] at hx
      obtain ⟨i, hij, hi'⟩ := List.mem_eraseIdx_iff_getElem?.1 hx
      obtain ⟨a', c', hok, hk', hv, hf⟩ := h2 x (List.mem_of_getElem? hi')
      refine ⟨a', c', hok, hk', hv, ?_⟩
      have : a' ≠ a := by
        rintro rfl
        have hst := (MapKept.stamped_iff es clock).1 h1
        have hp := List.pairwise_iff_getElem.1 hst.2.2
        obtain ⟨hil, hie⟩ := List.getElem?_eq_some_iff.1 hi'
        obtain ⟨hjl, hje⟩ := List.getElem?_eq_some_iff.1 q2
        rcases Nat.lt_or_gt_of_ne hij with hlt | hlt
        · exact hp i j hil hjl hlt (by rw [hje, hie, q3, hk'])
        · exact hp j i hjl hil hlt (by rw [hje, hie, q3, hk'])
      simp [mput, this, hf]
    · intro a' c' hf
      by_cases haa : a' = a
      · simp [mput, haa] at hf
      · simp only [mput, haa, if_false] at hf
        obtain ⟨hok, x, hx, hk⟩ := h3 a' c' hf
        refine ⟨hok, x, ?_, hk⟩
        obtain ⟨i, hi⟩ := List.mem_iff_getElem?.1 hx
        rw [hsub]
        refine List.mem_eraseIdx_iff_getElem?.2 ⟨i, ?_, hi⟩
        rintro rfl
        rw [q2] at hi
        injection hi with hi
        subst hi
        exact haa (K.inj _ _ (hk.symm.trans q3))

/-- How many keys. -/
theorem MapIs.len (h : MapIs ke ve ok w b f) (K : KeyKind P k ke ok) {t e : TypeId} (ht : P.underlying t = some (.map k e)) (ty : TypeId) (L : List α) (hL : L.Nodup) (hm : ∀ a, a ∈ L ↔ f a ≠ none) :
    (Builtin.len_ #[t] ty #[.map (some b)]).run P w = .ok (.int .i64 (L.length : Int)) w := by
  obtain ⟨es, clock, hb, h1, h2, h3⟩ := h
  have hst := (MapKept.stamped_iff es clock).1 h1
  have hn : (es.toList.map (·.key)).Nodup := by
    unfold List.Nodup
    rw [List.pairwise_map]
    exact hst.2.2
  have hn2 : (L.map ke).Nodup := by
    unfold List.Nodup
    rw [List.pairwise_map]
    exact hL.imp fun hne e => hne (K.inj _ _ e)
  have hp : (es.toList.map (·.key)).Perm (L.map ke) := by
    refine (List.perm_ext_iff_of_nodup hn hn2).2 fun v => ?_
    simp only [List.mem_map]
    constructor
    · rintro ⟨x, hx, rfl⟩
      obtain ⟨a, c, _, hk, _, hf⟩ := h2 x hx
      exact ⟨a, (hm a).2 (by rw [hf]; simp), hk.symm⟩
    · rintro ⟨a, ha, rfl⟩
      obtain ⟨c, hc⟩ := Option.ne_none_iff_exists'.1 ((hm a).1 ha)
      obtain ⟨_, x, hx, hk⟩ := h3 a c hc
      exact ⟨x, hx, hk⟩
  have hl : es.size = L.length := by simpa using hp.length_eq
  simp [Builtin.len_, run_underlying ht, MapKept.run_getObj_map hb, Result.andThen, hl, goInt]
end
end Go.Proofs.YtajojhfialbfkaaGreatDoor
