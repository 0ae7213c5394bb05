/- Layer 7: the super of a disk. -/
import Derived.Test.YtajojhfialbfkaaGreatDoorMRowStoreF05
namespace Go.Proofs.YtajojhfialbfkaaGreatDoor
open Go.RowKit
set_option maxRecDepth 100000

/-- All sectors have their length. -/
def DS.whole (D : DS) : Prop := ∀ x ∈ D.l, x.1.size = 64 ∧ x.2.size = 64

def nowB (D : DS) (i : Nat) : List UInt8 := ((D.l[i]?).map (fun x => x.2.data.toList)).getD []

/-- The best of the first slots. -/
def readTo (D : DS) : Nat → SU
  | 0 => zeroSU
  | i + 1 => match parseB (nowB D i) D.l.length with
    | some s => if s.epoch % 2 = i ∧ (readTo D i).epoch < s.epoch then s else readTo D i
    | none => readTo D i

theorem parseB_epoch {l : List UInt8} {n : Nat} {s : SU} (h : parseB l n = some s) : s.epoch < 4294967296 := by
  unfold parseB at h
  split at h
  · split at h
    · split at h
      · next ht =>
        split at h
        · injection h with h; subst h
          unfold textSuper at ht
          split at ht
          · injection ht with ht; subst ht
            have := be_take l 4; simp only; omega
          · cases ht
        · cases h
      · cases h
    · cases h
  · cases h

set_option maxHeartbeats 2000000 in
theorem super_read {w : World} {d : Nat} {sv : Value} {D : DS} (h : DiskAt w d sv D) (hz : D.dead = false) (hwh : D.whole) (hn : D.l.length ≤ 4096) :
    Calls Tryz.prog 111 #[.pointer (some ⟨d, 0, none⟩)] w fun e w' =>
      ((e = .returned (readTo D (min 2 D.l.length)).v ∧ (readTo D (min 2 D.l.length)).epoch ≠ 0) ∨ (e = failed 1 ∧ (readTo D (min 2 D.l.length)).epoch = 0)) ∧ Below w.heap.size w w' := by
  have HD := Lib.hid h
  have HZ := Lib.hid hz
  have HWh := Lib.hid hwh
  have HN := Lib.hid hn
  have hmin : min (2 : Int) (D.l.length : Int) = ((min 2 D.l.length : Nat) : Int) := by omega
  obtain ⟨m, hm⟩ : ∃ m, m = min 2 D.l.length := ⟨_, rfl⟩
  rw [← hm] at hmin ⊢
  have hm2 : m ≤ D.l.length := by omega
  have hm3 : m ≤ 2 := by omega
  have HM := Lib.hid hm2
  clear h hz hwh hn hm hm2
  go_enter Tryz.func111, Tryz.ntmps111
  go_wp2_with fail
  have hR := blk_alloc (o' := (Obj.cells #[.int .u32 0, .int .i64 0, .int .i64 0, .int .i64 0, .int .u32 0] 69)) (blk_new (w := w) (o := (Obj.cells #[.int .u32 0, .int .i64 0, .int .i64 0, .int .i64 0, .int .u32 0] 69)) rfl)
  have hT : ((w.alloc (Obj.cells #[.int .u32 0, .int .i64 0, .int .i64 0, .int .i64 0, .int .u32 0] 69)).alloc (Obj.cells #[.int .u32 0, .int .i64 0, .int .i64 0, .int .i64 0, .int .u32 0] 69)).heap[w.heap.size + 1]? = some (suObj (readTo D 0)) := blk_new (by simp)
  have hL : Below w.heap.size w ((w.alloc (Obj.cells #[.int .u32 0, .int .i64 0, .int .i64 0, .int .i64 0, .int .u32 0] 69)).alloc (Obj.cells #[.int .u32 0, .int .i64 0, .int .i64 0, .int .i64 0, .int .u32 0] 69)) := ((Below.refl _ w).alloc (Nat.le_refl _) _).alloc (by simp) _
  have hz0 : ((w.alloc (Obj.cells #[.int .u32 0, .int .i64 0, .int .i64 0, .int .i64 0, .int .u32 0] 69)).alloc (Obj.cells #[.int .u32 0, .int .i64 0, .int .i64 0, .int .i64 0, .int .u32 0] 69)).heap.size = w.heap.size + 1 + 1 := by simp
  generalize (w.alloc (Obj.cells #[.int .u32 0, .int .i64 0, .int .i64 0, .int .i64 0, .int .u32 0] 69)).alloc (Obj.cells #[.int .u32 0, .int .i64 0, .int .i64 0, .int .i64 0, .int .u32 0] 69) = w0 at *
  refine (disk_len (HD.out.fr (Fr.of_below (F := fun _ => False) hL) (fun _ _ h => h))).mono ?_
  rintro e w1 ⟨rfl, rfl⟩
  have HR := Lib.hid hR
  have HT := Lib.hid hT
  have HL := Lib.hid hL
  clear hR hT hL
  go_wp2_with fail
  go_loopw [11] (fun i w' => ∃ k : Nat, k ≤ m ∧ i = .int .i64 (k : Int) ∧ w'.heap[w.heap.size]? = some (Obj.cells #[.int .u32 0, .int .i64 0, .int .i64 0, .int .i64 0, .int .u32 0] 69 (0, 0)) ∧ w'.heap[w.heap.size + 1]? = some (suObj (readTo D k)) ∧ Below w.heap.size w w' ∧ w.heap.size + 1 + 1 ≤ w'.heap.size) (fun i _ => m - (intOf i).toNat)
  case atStart => exact ⟨0, Nat.zero_le _, rfl, HR.out, HT.out, HL.out, by omega⟩
  case round =>
    obtain ⟨k, hk, rfl, hR, hT, hL, hzr⟩ := hrel
    have HR := Lib.hid hR
    have HT := Lib.hid hT
    have HL := Lib.hid hL
    clear hR hT hL
    rcases Nat.lt_or_ge k m with hlt | hge
    · have hkl : k < D.l.length := by have := HM.out; omega
      have hd := HD.out.fr (Fr.of_below (F := fun _ => False) HL.out) (fun _ _ h => h)
      have hrd := disk_read hd HZ.out k hkl
      have hln := disk_len hd
      have hstr : D.l[k].2 = bstr (nowB D k) := by
        simp only [nowB, List.getElem?_eq_getElem hkl, Option.map_some, Option.getD_some, bstr_data]
      rw [hstr] at hrd
      have hl64 : (nowB D k).length = 64 := by
        have := (HWh.out _ (List.getElem_mem hkl)).2
        rw [hstr, size_bstr] at this; exact this
      have hpp := super_parse (nowB D k) hl64 D.l.length HN.out wr
      have HRd := Lib.hid hrd
      have HLn := Lib.hid hln
      have HP := Lib.hid hpp
      clear hd hrd hln hstr hl64 hpp
      go_wp2_with fail
      refine HRd.out.mono ?_
      rintro e w2 ⟨rfl, rfl⟩
      go_wp2_with fail
      refine HLn.out.mono ?_
      rintro e w2 ⟨rfl, rfl⟩
      go_wp2_with fail
      refine HP.out.mono ?_
      rintro e w2 ⟨⟨s, b, rfl, hsb⟩, hb2⟩
      have HR := Lib.hid (blk_below HR.out hb2 (by omega))
      have HT := Lib.hid (blk_below HT.out hb2 (by omega))
      have HL := Lib.hid (HL.out.trans (hb2.mono (by omega)))
      have hz2 := Nat.le_trans hzr hb2.size
      have HS := Lib.hid hsb
      clear hb2 hsb
      simp only [SU.v]
      have hsuc : readTo D (k + 1) = match parseB (nowB D k) D.l.length with
        | some s => if s.epoch % 2 = k ∧ (readTo D k).epoch < s.epoch then s else readTo D k
        | none => readTo D k := rfl
      generalize readTo D k = B at *
      have hnew := fun (W : World) (o : Obj) => blk_new (w := W) (o := o) rfl
      clear hnew
      have hT2 := blk_alloc (o' := Obj.cells #[.int .u32 (s.epoch : Int), .int .i64 s.journal, .int .i64 s.bits, .int .i64 (s.head : Int), .int .u32 (s.next : Int)] 69) HT.out
      have hR2 := blk_alloc (o' := Obj.cells #[.int .u32 (s.epoch : Int), .int .i64 s.journal, .int .i64 s.bits, .int .i64 (s.head : Int), .int .u32 (s.next : Int)] 69) HR.out
      have hL2 := HL.out.alloc (by omega) (Obj.cells #[.int .u32 (s.epoch : Int), .int .i64 s.journal, .int .i64 s.bits, .int .i64 (s.head : Int), .int .u32 (s.next : Int)] 69)
      have hz3 : w.heap.size + 1 + 1 ≤ (w2.alloc (Obj.cells #[.int .u32 (s.epoch : Int), .int .i64 s.journal, .int .i64 s.bits, .int .i64 (s.head : Int), .int .u32 (s.next : Int)] 69)).heap.size := by simp; omega
      have HT2 := Lib.hid hT2
      have HR2 := Lib.hid hR2
      have HL2 := Lib.hid hL2
      have HZ3 := Lib.hid hz3
      have hcT := cell_blk HT2.out
      clear hT2 hR2 hL2 hz3
      rcases HS.out with ⟨rfl, hp⟩ | ⟨rfl, hp⟩
      · rw [hp] at hsuc
        simp only at hsuc
        have he32 := parseB_epoch hp
        have HE := Lib.hid hsuc
        obtain ⟨p, hp2⟩ : ∃ p, s.epoch % 2 = p := ⟨_, rfl⟩
        rw [hp2] at HE
        have e2 : ((s.epoch : Int) % 2) = (p : Int) := by omega
        have e3 : IntKind.i64.wrap (p : Int) = (p : Int) := IntWalk.i64_in _ (by omega)
        clear hsuc hp hp2 he32
        by_cases h1 : p = k
        · have d1 : ((p : Int) == (k : Int)) = true := by simp; omega
          have H1 := Lib.hid h1
          clear h1
          by_cases h2 : B.epoch < s.epoch
          · have d2 : decide ((B.epoch : Int) < (s.epoch : Int)) = true := by simpa using h2
            have H2 := Lib.hid h2
            clear h2
            have hcS := cell_blk (blk_new (w := w2) (o := Obj.cells #[.int .u32 (s.epoch : Int), .int .i64 s.journal, .int .i64 s.bits, .int .i64 (s.head : Int), .int .u32 (s.next : Int)] 69) rfl)
            have hfT := frozen_blk HT2.out
            go_wp2_with fail
            go_roundw
            case rel => exact ⟨k + 1, hlt, by go_num, su_far (c := w.heap.size + 1) HR2.out (by omega) _ _ _ _ _, by rw [HE.out, if_pos ⟨H1.out, H2.out⟩]; exact su_set HT2.out _ _ _ _ _, (su_fr (Fr.of_below (F := fun _ => False) HL2.out) (fun h => absurd h (by omega)) _ _ _ _ _).none_below, by simpa using HZ3.out⟩
            case measure => simp [intOf]; omega
          · have d2 : decide ((B.epoch : Int) < (s.epoch : Int)) = false := by simpa using h2
            have H2 := Lib.hid h2
            clear h2
            go_wp2_with fail
            go_roundw
            case rel => exact ⟨k + 1, hlt, by go_num, HR2.out, by rw [HE.out, if_neg (fun h => H2.out h.2)]; exact HT2.out, HL2.out, HZ3.out⟩
            case measure => simp [intOf]; omega
        · have d1 : ((p : Int) == (k : Int)) = false := by simp; omega
          have H1 := Lib.hid h1
          clear h1
          go_wp2_with fail
          go_roundw
          case rel => exact ⟨k + 1, hlt, by go_num, HR2.out, by rw [HE.out, if_neg (fun h => H1.out h.1)]; exact HT2.out, HL2.out, HZ3.out⟩
          case measure => simp [intOf]; omega
      · rw [hp] at hsuc
        simp only at hsuc
        have HE := Lib.hid hsuc
        clear hsuc hp
        go_wp2_with fail
        go_roundw
        case rel => exact ⟨k + 1, hlt, by go_num, HR2.out, by rw [HE.out]; exact HT2.out, HL2.out, HZ3.out⟩
        case measure => simp [intOf]; omega
    · have hkm : k = m := by omega
      subst hkm
      obtain ⟨B, hB⟩ : ∃ B, readTo D k = B := ⟨_, rfl⟩
      rw [hB] at HT
      have HBq := Lib.hid hB
      clear hB
      have hcT := cell_blk HT.out
      have hcR := cell_blk HR.out
      have hfR := frozen_blk HR.out
      by_cases h0 : B.epoch = 0
      · have d0 : ((B.epoch : Int) == 0) = true := by simpa using h0
        have H0 := Lib.hid h0
        clear h0
        go_wp2_with fail
        refine (fail_any _ _).mono ?_
        rintro e w' ⟨rfl, rfl⟩
        exact ⟨rfl, .inr ⟨rfl, by rw [HBq.out]; exact H0.out⟩, HL.out⟩
      · have d0 : ((B.epoch : Int) == 0) = false := by simpa using h0
        have H0 := Lib.hid h0
        clear h0
        go_wp2_with fail
        have hcf := cell_blk (su_set HR.out (.int .u32 (B.epoch : Int)) (.int .i64 B.journal) (.int .i64 B.bits) (.int .i64 (B.head : Int)) (.int .u32 (B.next : Int)))
        refine bodyPost_ret (v := SU.v B) (by simp [results, Tryz.results111, go_sem, hcf, SU.v]) rfl ⟨.inl ⟨by rw [HBq.out], by rw [HBq.out]; exact H0.out⟩, ?_⟩
        exact (su_fr (Fr.of_below (F := fun _ => False) HL.out) (fun h => absurd h (Nat.lt_irrefl _)) _ _ _ _ _).none_below
end Go.Proofs.YtajojhfialbfkaaGreatDoor
/- Layer 9: how to go back: the log. -/
namespace Go.Proofs.YtajojhfialbfkaaGreatDoor
open Go.RowKit
set_option maxRecDepth 100000

theorem infoFunc : (Tryz.prog.info? 1).map (fun i => (i.zero, i.size, i.bytes)) = some (some .nilFunc, 1, 8) := by kernel_rfl

/-- A closure. -/
abbrev cl (f : FuncId) (cap : Array Value) : Value := .func (.func f) #[] cap

/-- The log: its block g, its list's value lv, how deep, the closures. -/
structure LogAt (w : World) (g : Nat) (lv : Value) (depth : Nat) (vals : List Value) : Prop where
  hg : w.heap[g]? = some (.cells #[lv, .int .i64 (depth : Int)] 153 (0, 0))
  row : w.ownsRow 0 1 1 lv vals.length vals

def LogF (g : Nat) (lv : Value) : Nat → Prop := fun k => k = g ∨ lv.ownBlock = some k

section
variable {w : World} {g : Nat} {lv : Value} {depth : Nat} {vals : List Value}

theorem LogAt.fr {F : Nat → Prop} {w' : World} (h : LogAt w g lv depth vals) (hf : Fr F w w') (hn : ∀ k, LogF g lv k → ¬ F k) : LogAt w' g lv depth vals :=
  ⟨hf.blk h.hg (hn g (.inl rfl)), ownsRow_fr h.row hf (fun k hk => hn k (.inr hk))⟩
theorem LogAt.lt (h : LogAt w g lv depth vals) : ∀ k, LogF g lv k → k < w.heap.size := by
  rintro k (rfl | hk)
  · exact lt_of_blk h.hg
  · exact (h.row.lt k hk).2

theorem log_deep (h : LogAt w g lv depth vals) :
    Calls Tryz.prog 94 #[.pointer (some ⟨g, 0, none⟩)] w fun e w' => e = .returned (.int .i64 (depth : Int)) ∧ w = w' := by
  have hc := cell_blk h.hg
  clear h
  go_enter Tryz.func94, Tryz.ntmps94
  go_wp2_with fail
  go_ret
  exact ⟨rfl, rfl⟩

theorem log_back0 (h : LogAt w g lv 0 vals) (v : Value) :
    Calls Tryz.prog 167 #[.pointer (some ⟨g, 0, none⟩), v] w fun e w' => e = unit0 ∧ w = w' := by
  have hc := cell_blk h.hg
  clear h
  go_enter Tryz.func167, Tryz.ntmps167
  go_wp2_with fail
  go_end0
  exact ⟨rfl, rfl⟩

theorem log_back (h : LogAt w g lv depth vals) (hd : 0 < depth) (hl : vals.length ≤ 1000000) (f : FuncId) (cap : Array Value) :
    Calls Tryz.prog 167 #[.pointer (some ⟨g, 0, none⟩), cl f cap] w fun e w' => e = unit0 ∧ ∃ lv', LogAt w' g lv' depth (vals ++ [cl f cap]) ∧ Fr (LogF g lv) w w' ∧ (∀ k, lv'.ownBlock = some k → lv.ownBlock = some k ∨ w.heap.size ≤ k) := by
  obtain ⟨i0, hi, hz0, hz1, hz2⟩ := info_parts infoFunc
  have hc := cell_blk h.hg
  have hfz := frozen_blk h.hg
  obtain ⟨ao, cp, rfl, _, _⟩ := ownsRow_form h.row
  have H := Lib.hid h
  have HL := Lib.hid hl
  clear h hl
  go_enter Tryz.func167, Tryz.ntmps167
  go_wp2_with (at_builtin; refine wpList_append_lies _ rfl _ _ _ rfl 0 1 i0 _ 1 8 Tryz.underlying151 hi hz0 hz1 hz2 rfl (by decide) _ _ _ (by rfl) (H.out.row.alloc _) ⟨w.heap.size, 0, none⟩ 1 1 [cl f cap] (by rfl) (by rfl) (cell_one_new _ _ _) (by simp [Value.oneCell']) (by decide) (by have := HL.out; unfold maxLen; omega) (by have := HL.out; omega) (Nat.zero_le _) _ rfl ?_)
  intro g2 cap2 w3 hown hgrow hat hlt
  have hb := blk_alloc (o' := .cells #[cl f cap] 1) H.out.hg
  have hne : (Value.slice ao vals.length cp).ownBlock ≠ some g := ownsRow_ne H.out.row H.out.hg (by decide)
  have hb3 := blk_grown hb hgrow hne
  have HB := Lib.hid hb3
  have HO := Lib.hid hown
  have HG := Lib.hid hgrow
  have HA := Lib.hid hat
  have hc3 := cell_blk hb3
  have hf3 := frozen_blk hb3
  clear hown hgrow hat hb hb3 hc hfz
  go_wp2_with fail
  go_end0
  refine ⟨rfl, _, ⟨blk_set HB.out, ?_⟩, ?_, ?_⟩
  · have := HO.out
    rw [List.length_append]
    exact ownsRow_far this (ownsRow_ne this HB.out (by decide)) _
  · exact ((((Fr.refl _ w).alloc _).grown HG.out (fun k hk _ => .inr hk)).setCell (p := ⟨g, 0, none⟩) (fun _ => .inl rfl) _)
  · intro k hk
    have e : k = g2 := by simpa [Value.ownBlock] using hk.symm
    subst e
    rcases HA.out with h | h
    · exact .inl h
    · right; omega

theorem log_leave (h : LogAt w g lv (depth + 1) vals) (hd : depth ≤ 1000) :
    Calls Tryz.prog 141 #[.pointer (some ⟨g, 0, none⟩)] w fun e w' => e = unit0 ∧ (∃ lv', LogAt w' g lv' depth (if depth = 0 then [] else vals) ∧ (lv' = lv ∨ lv' = .slice none 0 0)) ∧ Fr (fun k => k = g) w w' := by
  have hc := cell_blk h.hg
  have hfz := frozen_blk h.hg
  have H := Lib.hid h
  have hwk : IntKind.i64.wrap (((depth + 1 : Nat) : Int) - 1) = (depth : Int) := by rw [IntWalk.i64_in _ (by omega)]; omega
  clear h
  obtain ⟨ao, cp, rfl, _, _⟩ := ownsRow_form H.out.row
  have hb1 := blk_set (i := 1) (v := .int .i64 (depth : Int)) H.out.hg
  simp only [List.setIfInBounds_toArray, List.set_cons_zero, List.set_cons_succ] at hb1
  have hb2 := blk_set (i := 0) (v := .slice none 0 0) hb1
  simp only [List.setIfInBounds_toArray, List.set_cons_zero] at hb2
  have hc1 := cell_blk hb1
  have HB1 := Lib.hid hb1
  have HB2 := Lib.hid hb2
  have hrow := ownsRow_far H.out.row (p := ⟨g, 1, none⟩) (ownsRow_ne H.out.row H.out.hg (by decide)) (.int .i64 (depth : Int))
  have HR := Lib.hid hrow
  clear hb1 hb2 hrow
  rcases Nat.eq_zero_or_pos depth with rfl | hpos
  · go_enter Tryz.func141, Tryz.ntmps141
    go_wp2_with fail
    go_end0
    refine ⟨rfl, ⟨.slice none 0 0, ⟨HB2.out, ⟨rfl, .inl ⟨rfl, rfl⟩⟩⟩, .inr rfl⟩, ((Fr.refl (fun k => k = g) w).setCell (p := ⟨g, 1, none⟩) (fun _ => rfl) _).setCell (p := ⟨g, 0, none⟩) (fun _ => rfl) _⟩
  · have d0 : ((depth : Int) == 0) = false := by simp; omega
    have H0 := Lib.hid (show depth ≠ 0 by omega)
    clear hpos
    go_enter Tryz.func141, Tryz.ntmps141
    go_wp2_with fail
    go_end0
    refine ⟨rfl, ⟨_, ⟨HB1.out, ?_⟩, .inl rfl⟩, (Fr.refl (fun k => k = g) w).setCell (p := ⟨g, 1, none⟩) (fun _ => rfl) _⟩
    exact HR.out
end
end Go.Proofs.YtajojhfialbfkaaGreatDoor
/- Layer 9: what failed is as if it had never been: Try. -/
namespace Go.Proofs.YtajojhfialbfkaaGreatDoor
open Go.RowKit
set_option maxRecDepth 100000

section
variable {w : World} {g : Nat} {lv : Value} {depth : Nat} {vals : List Value}

/-- The world within a Try. -/
abbrev deeper (w : World) (g depth : Nat) : World := w.setCell ⟨g, 1, none⟩ (.int .i64 ((depth + 1 : Nat) : Int))

theorem LogAt.deeper (h : LogAt w g lv depth vals) : LogAt (deeper w g depth) g lv (depth + 1) vals := by
  have hb := blk_set (i := 1) (v := .int .i64 ((depth + 1 : Nat) : Int)) h.hg
  simp only [List.setIfInBounds_toArray, List.set_cons_zero, List.set_cons_succ] at hb
  exact ⟨hb, ownsRow_far h.row (p := ⟨g, 1, none⟩) (ownsRow_ne h.row h.hg (by decide)) _⟩

/-- What leave makes. -/
def LeaveEnd (w : World) (g : Nat) (lv : Value) (depth : Nat) (vals : List Value) (w' : World) : Prop :=
  (∃ lv', LogAt w' g lv' depth (if depth = 0 then [] else vals) ∧ (lv' = .slice none 0 0 ∨ depth ≠ 0 ∧ lv' = lv)) ∧ Fr (fun k => k = g) w w'

theorem log_leaveD (h : LogAt w g lv (depth + 1) vals) (hd : depth ≤ 1000) (u : FrameMode) :
    CallsD Tryz.prog 141 #[.pointer (some ⟨g, 0, none⟩)] u w fun e u' w' => e = .returned (.tuple #[]) ∧ u' = u ∧ LeaveEnd w g lv depth vals w' := by
  have hc := cell_blk h.hg
  have hfz := frozen_blk h.hg
  have H := Lib.hid h
  have hwk : IntKind.i64.wrap (((depth + 1 : Nat) : Int) - 1) = (depth : Int) := by rw [IntWalk.i64_in _ (by omega)]; omega
  clear h
  obtain ⟨ao, cp, rfl, _, _⟩ := ownsRow_form H.out.row
  have hb1 := blk_set (i := 1) (v := .int .i64 (depth : Int)) H.out.hg
  simp only [List.setIfInBounds_toArray, List.set_cons_zero, List.set_cons_succ] at hb1
  have hb2 := blk_set (i := 0) (v := .slice none 0 0) hb1
  simp only [List.setIfInBounds_toArray, List.set_cons_zero] at hb2
  have hc1 := cell_blk hb1
  have HB1 := Lib.hid hb1
  have HB2 := Lib.hid hb2
  have hrow := ownsRow_far H.out.row (p := ⟨g, 1, none⟩) (ownsRow_ne H.out.row H.out.hg (by decide)) (.int .i64 (depth : Int))
  have HR := Lib.hid hrow
  clear hb1 hb2 hrow
  refine callsD_of_wpS Tryz.func141 rfl fun c₀ cs hu => ?_
  refine wpS_of_wp ?_
  have HU := Lib.hid hu
  clear hu
  have e : ((#[.pointer (some ⟨g, 0, none⟩)] : Array Value) ++ Array.replicate 16 undef) = #[.pointer (some ⟨g, 0, none⟩), undef, undef, undef, undef, undef, undef, undef, undef, undef, undef, undef, undef, undef, undef, undef, undef] := by rfl
  simp only [Tryz.ntmps141, List.size_toArray, List.length_cons, List.length_nil, Nat.reduceAdd, Nat.reduceSub, e]
  clear e
  rcases Nat.eq_zero_or_pos depth with rfl | hpos
  · go_wp2_with fail
    have hu := HU.out
    have hE : LeaveEnd w g (.slice ao vals.length cp) 0 vals ((w.setCell ⟨g, 1, none⟩ (.int .i64 0)).setCell ⟨g, 0, none⟩ (.slice none 0 0)) :=
      ⟨⟨.slice none 0 0, ⟨HB2.out, ⟨rfl, .inl ⟨rfl, rfl⟩⟩⟩, .inl rfl⟩, ((Fr.refl (fun k => k = g) w).setCell (p := ⟨g, 1, none⟩) (fun _ => rfl) _).setCell (p := ⟨g, 0, none⟩) (fun _ => rfl) _⟩
    clear hc hfz hwk hc1 HB1 HB2 HR H
    cases c₀
    simp_all [bodyPostS, results, Tryz.results141]
  · have H0 := Lib.hid (show depth ≠ 0 by omega)
    have d0 : ((depth : Int) == 0) = false := by simp; omega
    clear hpos
    go_wp2_with fail
    have hu := HU.out
    have hE : LeaveEnd w g (.slice ao vals.length cp) depth vals (w.setCell ⟨g, 1, none⟩ (.int .i64 (depth : Int))) :=
      ⟨⟨_, ⟨HB1.out, by rw [if_neg H0.out]; exact HR.out⟩, .inr ⟨H0.out, rfl⟩⟩, (Fr.refl (fun k => k = g) w).setCell (p := ⟨g, 1, none⟩) (fun _ => rfl) _⟩
    clear hc hfz hwk hc1 HB1 HB2 HR H d0
    cases c₀
    simp_all [bodyPostS, results, Tryz.results141]

/-- What Try comes to. -/
def TryEnd (g depth : Nat) (T : Option Int → World → Prop) (e : Ending) (w' : World) : Prop :=
  ∃ o w4 lv' vals', e = .returned (.int .i64 (o.getD 0)) ∧ T o w4 ∧ LogAt w4 g lv' (depth + 1) vals' ∧ LeaveEnd w4 g lv' depth vals' w'

theorem log_try (h : LogAt w g lv depth vals) (hd : depth ≤ 1000) (_hl : vals.length ≤ 1000000) (f : FuncId) (cap : Array Value) (he : Enters f (#[] ++ cap)) (R T : Option Int → World → Prop)
    (hrun : Calls Tryz.prog f (#[] ++ cap) ((deeper w g depth).alloc (.cells #[.int .i64 0] 29)) fun e w2 => w2.heap[(deeper w g depth).heap.size]? = some (.cells #[.int .i64 0] 29 (0, 0)) ∧ Comes0 R e w2)
    (hok : ∀ w2 w3, R none w2 → Fr (fun k => k = (deeper w g depth).heap.size) w2 w3 → T none w3)
    (hbad : ∀ n w2 w3, R (some n) w2 → Fr (fun k => k = (deeper w g depth).heap.size) w2 w3 → n ≠ 0 ∧
      Calls Tryz.prog 142 #[.pointer (some ⟨g, 0, none⟩), .int .i64 (vals.length : Int)] w3 fun e w4 => e = unit0 ∧ T (some n) w4)
    (hlog : ∀ o w4, T o w4 → ∃ lv' vals', LogAt w4 g lv' (depth + 1) vals') :
    Calls Tryz.prog 93 #[.pointer (some ⟨g, 0, none⟩), cl f cap] w (TryEnd g depth T) := by
  have hc := cell_blk h.hg
  have hfz := frozen_blk h.hg
  have H := Lib.hid h
  have hwk : IntKind.i64.wrap ((depth : Int) + 1) = ((depth + 1 : Nat) : Int) := by rw [IntWalk.i64_in _ (by omega)]; omega
  obtain ⟨ao, cp, rfl, hq1, hq2⟩ := ownsRow_form H.out.row
  have HRun := Lib.hid hrun
  have HOk := Lib.hid hok
  have HBad := Lib.hid hbad
  have HLog := Lib.hid hlog
  have HDp := Lib.hid hd
  clear h hrun hok hbad hlog hq1 hq2 hd
  go_enter_defers Tryz.func93, Tryz.ntmps93
  go_wp2_with fail
  refine (guard_any f #[] cap he _ R HRun.out).mono ?_
  rintro e w3 ⟨o, w2, rfl, hR, hF⟩
  cases o with
  | none =>
    have hT := HOk.out w2 w3 hR hF
    obtain ⟨lv', vals', hL⟩ := HLog.out none w3 hT
    have HT := Lib.hid hT
    have HL := Lib.hid hL
    clear hR hF hT hL
    go_wp2_with fail
    refine leaves_cons (f := 141) (args := #[.pointer (some ⟨g, 0, none⟩)]) (by simp) (by simp [go_sem]) ?_
    refine (log_leaveD HL.out HDp.out _).mono ?_
    rintro e u' w5 ⟨rfl, rfl, hE⟩
    refine ⟨_, results_tmp rfl _ _ _, none, w3, lv', vals', rfl, HT.out, HL.out, hE⟩
  | some n =>
    obtain ⟨hn, hto⟩ := HBad.out n w2 w3 hR hF
    have hn' : (n == 0) = false := by simpa using hn
    have HTo := Lib.hid hto
    clear hR hF hn hto
    simp only [Option.getD_some]
    go_wp2_with fail
    refine HTo.out.mono ?_
    rintro e w4 ⟨rfl, hT⟩
    obtain ⟨lv', vals', hL⟩ := HLog.out (some n) w4 hT
    have HT := Lib.hid hT
    have HL := Lib.hid hL
    clear hT hL
    go_wp2_with fail
    refine leaves_cons (f := 141) (args := #[.pointer (some ⟨g, 0, none⟩)]) (by simp) (by simp [go_sem]) ?_
    refine (log_leaveD HL.out HDp.out _).mono ?_
    rintro e u' w5 ⟨rfl, rfl, hE⟩
    refine ⟨_, results_tmp rfl _ _ _, some n, w4, lv', vals', rfl, HT.out, HL.out, hE⟩
end
end Go.Proofs.YtajojhfialbfkaaGreatDoor
/- Layer 9: a variable, until it is undone. -/
namespace Go.Proofs.YtajojhfialbfkaaGreatDoor
open Go.RowKit
set_option maxRecDepth 100000

section
variable {w : World} {g : Nat} {lv : Value} {depth : Nat} {vals : List Value}

/-- What Set makes: boxes x (what was), y (where); the log is longer; the cell is another. -/
structure SetEnd (w : World) (g : Nat) (lv : Value) (depth : Nat) (vals : List Value) (f : FuncId) (ti tp : TypeId) (b i : Nat) (cs : Array Value) (t : TypeId) (was now : Value) (w' : World) : Prop where
  ends : ∃ lv' x y, LogAt w' g lv' depth (vals ++ [cl f #[.pointer (some ⟨x, 0, none⟩), .pointer (some ⟨y, 0, none⟩)]]) ∧ (∀ k, lv'.ownBlock = some k → lv.ownBlock = some k ∨ w.heap.size ≤ k) ∧
    w.heap.size ≤ x ∧ w.heap.size ≤ y ∧ ¬ LogF g lv' x ∧ ¬ LogF g lv' y ∧ w'.heap[x]? = some (.cells #[was] ti (0, 0)) ∧ w'.heap[y]? = some (.cells #[.pointer (some ⟨b, i, none⟩)] tp (0, 0))
  blk : w'.heap[b]? = some (.cells (cs.setIfInBounds i now) t (0, 0))
  fr : Fr (fun k => LogF g lv k ∨ k = b) w w'

theorem u_set_int (h : LogAt w g lv depth vals) (hd : 0 < depth) (hl : vals.length ≤ 100000) (b i : Nat) (cs : Array Value) (t : TypeId) (was now : Int) (hb : w.heap[b]? = some (.cells cs t (0, 0))) (hi : cs[i]? = some (.int .i64 was)) (hn : ¬ LogF g lv b) :
    Calls Tryz.prog 164 #[.pointer (some ⟨g, 0, none⟩), .pointer (some ⟨b, i, none⟩), .int .i64 now] w fun e w' =>
      e = unit0 ∧ SetEnd w g lv depth vals 208 3 234 b i cs t (.int .i64 was) (.int .i64 now) w' := by
  have hc : ∀ o, (w.alloc o).cell? ⟨b, i, none⟩ = some (.int .i64 was) := fun o => by rw [cell_blk (blk_alloc hb) i, hi]
  have H := Lib.hid h
  have HB := Lib.hid hb
  have HI := Lib.hid hi
  have HN := Lib.hid hn
  have HD := Lib.hid hd
  have HL := Lib.hid hl
  clear h hb hi hn hd hl
  go_enter Tryz.func164, Tryz.ntmps164
  go_wp2_with fail
  have hx := blk_new (o := Obj.cells #[.int .i64 was] 3) (size_alloc (w := w) (o := Obj.cells #[.pointer (some ⟨b, i, none⟩)] 234) rfl)
  have hy := blk_alloc (o' := Obj.cells #[.int .i64 was] 3) (blk_new (w := w) (o := Obj.cells #[.pointer (some ⟨b, i, none⟩)] 234) rfl)
  have hb2 := blk_alloc (o' := Obj.cells #[.int .i64 was] 3) (blk_alloc (o' := Obj.cells #[.pointer (some ⟨b, i, none⟩)] 234) HB.out)
  have hF2 : Fr (fun _ => False) w ((w.alloc (Obj.cells #[.pointer (some ⟨b, i, none⟩)] 234)).alloc (Obj.cells #[.int .i64 was] 3)) := ((Fr.refl _ w).alloc _).alloc _
  have hz2 := size_alloc (o := Obj.cells #[.int .i64 was] 3) (size_alloc (w := w) (o := Obj.cells #[.pointer (some ⟨b, i, none⟩)] 234) rfl)
  clear hc
  generalize (w.alloc (Obj.cells #[.pointer (some ⟨b, i, none⟩)] 234)).alloc (Obj.cells #[.int .i64 was] 3) = w2 at *
  have hlt := H.out.lt
  have hL2 := H.out.fr hF2 (fun _ _ h => h)
  have hbl := lt_of_blk HB.out
  refine (log_back hL2 HD.out (by have := HL.out; omega) 208 #[.pointer (some ⟨w.heap.size + 1, 0, none⟩), .pointer (some ⟨w.heap.size, 0, none⟩)]).mono ?_
  rintro e w3 ⟨rfl, lv', hL3, hF3, hlv⟩
  have hx3 := hF3.blk hx (fun h => by have := hlt _ h; omega)
  have hy3 := hF3.blk hy (fun h => by have := hlt _ h; omega)
  have hb3 := hF3.blk hb2 HN.out
  have hnx : ¬ LogF g lv' (w.heap.size + 1) := by
    rintro (h | h)
    · have := hlt g (.inl rfl); omega
    · rcases hlv _ h with h | h
      · have := hlt _ (.inr h); omega
      · omega
  have hny : ¬ LogF g lv' w.heap.size := by
    rintro (h | h)
    · have := hlt g (.inl rfl); omega
    · rcases hlv _ h with h | h
      · have := hlt _ (.inr h); omega
      · omega
  have hnb : ¬ LogF g lv' b := by
    rintro (h | h)
    · exact HN.out (.inl h)
    · rcases hlv _ h with h | h
      · exact HN.out (.inr h)
      · omega
  have hcy := cell_blk hy3
  have hcb := cell_blk hb3 i
  rw [HI.out] at hcb
  have hfb := frozen_blk hb3
  have HE := Lib.hid (show SetEnd w g lv depth vals 208 3 234 b i cs t (.int .i64 was) (.int .i64 now) (w3.setCell ⟨b, i, none⟩ (.int .i64 now)) from by
    refine ⟨⟨lv', w.heap.size + 1, w.heap.size, ?_, ?_, by omega, Nat.le_refl _, hnx, hny, blk_far (p := ⟨b, i, none⟩) hx3 (by show w.heap.size + 1 ≠ b; omega), blk_far (p := ⟨b, i, none⟩) hy3 (by show w.heap.size ≠ b; omega)⟩, blk_set hb3, ?_⟩
    · exact hL3.fr ((Fr.refl (fun k => k = b) w3).setCell (p := ⟨b, i, none⟩) (fun _ => rfl) _) (fun k hk e => hnb (e ▸ hk))
    · intro k hk
      rcases hlv k hk with h | h
      · exact .inl h
      · right; omega
    · exact ((hF2.mono (G := fun k => LogF g lv k ∨ k = b) (fun _ _ h => h.elim)).trans hF3 (fun k _ h => .inl h)).setCell (p := ⟨b, i, none⟩) (fun _ => .inr rfl) _)
  clear hx hy hb2 hF2 hz2 hL2 hL3 hF3 hx3 hy3 hb3 hnx hny hnb hlv hlt hbl
  go_wp2_with fail
  go_end0
  exact ⟨rfl, HE.out⟩

theorem u_set_int_back (x y b i : Nat) (cs : Array Value) (t : TypeId) (was old : Int) (hx : w.heap[x]? = some (.cells #[.int .i64 was] 3 (0, 0))) (hy : w.heap[y]? = some (.cells #[.pointer (some ⟨b, i, none⟩)] 234 (0, 0)))
    (hb : w.heap[b]? = some (.cells cs t (0, 0))) (hi : cs[i]? = some (.int .i64 old)) :
    Calls Tryz.prog 208 (#[] ++ #[.pointer (some ⟨x, 0, none⟩), .pointer (some ⟨y, 0, none⟩)]) w fun e w' => e = unit0 ∧ w' = w.setCell ⟨b, i, none⟩ (.int .i64 was) := by
  have hcx := cell_blk hx
  have hcy := cell_blk hy
  have hcb := cell_blk hb i
  rw [hi] at hcb
  have hfb := frozen_blk hb
  clear hx hy hb hi
  simp only [List.nil_append, List.append_toArray]
  go_enter Tryz.func208, Tryz.ntmps208
  go_wp2_with fail
  go_end0
  exact ⟨rfl, rfl⟩

theorem u_set_u32 (h : LogAt w g lv depth vals) (hd : 0 < depth) (hl : vals.length ≤ 100000) (b i : Nat) (cs : Array Value) (t : TypeId) (was : Int) (now : Int) (hb : w.heap[b]? = some (.cells cs t (0, 0))) (hi : cs[i]? = some (.int .u32 was)) (hn : ¬ LogF g lv b) :
    Calls Tryz.prog 163 #[.pointer (some ⟨g, 0, none⟩), .pointer (some ⟨b, i, none⟩), .int .u32 now] w fun e w' =>
      e = unit0 ∧ SetEnd w g lv depth vals 207 47 232 b i cs t (.int .u32 was) (.int .u32 now) w' := by
  have hc : ∀ o, (w.alloc o).cell? ⟨b, i, none⟩ = some (.int .u32 was) := fun o => by rw [cell_blk (blk_alloc hb) i, hi]
  have H := Lib.hid h
  have HB := Lib.hid hb
  have HI := Lib.hid hi
  have HN := Lib.hid hn
  have HD := Lib.hid hd
  have HL := Lib.hid hl
  clear h hb hi hn hd hl
  go_enter Tryz.func163, Tryz.ntmps163
  go_wp2_with fail
  have hx := blk_new (o := Obj.cells #[.int .u32 was] 47) (size_alloc (w := w) (o := Obj.cells #[.pointer (some ⟨b, i, none⟩)] 232) rfl)
  have hy := blk_alloc (o' := Obj.cells #[.int .u32 was] 47) (blk_new (w := w) (o := Obj.cells #[.pointer (some ⟨b, i, none⟩)] 232) rfl)
  have hb2 := blk_alloc (o' := Obj.cells #[.int .u32 was] 47) (blk_alloc (o' := Obj.cells #[.pointer (some ⟨b, i, none⟩)] 232) HB.out)
  have hF2 : Fr (fun _ => False) w ((w.alloc (Obj.cells #[.pointer (some ⟨b, i, none⟩)] 232)).alloc (Obj.cells #[.int .u32 was] 47)) := ((Fr.refl _ w).alloc _).alloc _
  have hz2 := size_alloc (o := Obj.cells #[.int .u32 was] 47) (size_alloc (w := w) (o := Obj.cells #[.pointer (some ⟨b, i, none⟩)] 232) rfl)
  clear hc
  generalize (w.alloc (Obj.cells #[.pointer (some ⟨b, i, none⟩)] 232)).alloc (Obj.cells #[.int .u32 was] 47) = w2 at *
  have hlt := H.out.lt
  have hL2 := H.out.fr hF2 (fun _ _ h => h)
  have hbl := lt_of_blk HB.out
  refine (log_back hL2 HD.out (by have := HL.out; omega) 207 #[.pointer (some ⟨w.heap.size + 1, 0, none⟩), .pointer (some ⟨w.heap.size, 0, none⟩)]).mono ?_
  rintro e w3 ⟨rfl, lv', hL3, hF3, hlv⟩
  have hx3 := hF3.blk hx (fun h => by have := hlt _ h; omega)
  have hy3 := hF3.blk hy (fun h => by have := hlt _ h; omega)
  have hb3 := hF3.blk hb2 HN.out
  have hnx : ¬ LogF g lv' (w.heap.size + 1) := by
    rintro (h | h)
    · have := hlt g (.inl rfl); omega
    · rcases hlv _ h with h | h
      · have := hlt _ (.inr h); omega
      · omega
  have hny : ¬ LogF g lv' w.heap.size := by
    rintro (h | h)
    · have := hlt g (.inl rfl); omega
    · rcases hlv _ h with h | h
      · have := hlt _ (.inr h); omega
      · omega
  have hnb : ¬ LogF g lv' b := by
    rintro (h | h)
    · exact HN.out (.inl h)
    · rcases hlv _ h with h | h
      · exact HN.out (.inr h)
      · omega
  have hcy := cell_blk hy3
  have hcb := cell_blk hb3 i
  rw [HI.out] at hcb
  have hfb := frozen_blk hb3
  have HE := Lib.hid (show SetEnd w g lv depth vals 207 47 232 b i cs t (.int .u32 was) (.int .u32 now) (w3.setCell ⟨b, i, none⟩ (.int .u32 now)) from by
    refine ⟨⟨lv', w.heap.size + 1, w.heap.size, ?_, ?_, by omega, Nat.le_refl _, hnx, hny, blk_far (p := ⟨b, i, none⟩) hx3 (by show w.heap.size + 1 ≠ b; omega), blk_far (p := ⟨b, i, none⟩) hy3 (by show w.heap.size ≠ b; omega)⟩, blk_set hb3, ?_⟩
    · exact hL3.fr ((Fr.refl (fun k => k = b) w3).setCell (p := ⟨b, i, none⟩) (fun _ => rfl) _) (fun k hk e => hnb (e ▸ hk))
    · intro k hk
      rcases hlv k hk with h | h
      · exact .inl h
      · right; omega
    · exact ((hF2.mono (G := fun k => LogF g lv k ∨ k = b) (fun _ _ h => h.elim)).trans hF3 (fun k _ h => .inl h)).setCell (p := ⟨b, i, none⟩) (fun _ => .inr rfl) _)
  clear hx hy hb2 hF2 hz2 hL2 hL3 hF3 hx3 hy3 hb3 hnx hny hnb hlv hlt hbl
  go_wp2_with fail
  go_end0
  exact ⟨rfl, HE.out⟩

theorem u_set_u32_back (x y b i : Nat) (cs : Array Value) (t : TypeId) (was : Int) (old : Int) (hx : w.heap[x]? = some (.cells #[.int .u32 was] 47 (0, 0))) (hy : w.heap[y]? = some (.cells #[.pointer (some ⟨b, i, none⟩)] 232 (0, 0)))
    (hb : w.heap[b]? = some (.cells cs t (0, 0))) (hi : cs[i]? = some (.int .u32 old)) :
    Calls Tryz.prog 207 (#[] ++ #[.pointer (some ⟨x, 0, none⟩), .pointer (some ⟨y, 0, none⟩)]) w fun e w' => e = unit0 ∧ w' = w.setCell ⟨b, i, none⟩ (.int .u32 was) := by
  have hcx := cell_blk hx
  have hcy := cell_blk hy
  have hcb := cell_blk hb i
  rw [hi] at hcb
  have hfb := frozen_blk hb
  clear hx hy hb hi
  simp only [List.nil_append, List.append_toArray]
  go_enter Tryz.func207, Tryz.ntmps207
  go_wp2_with fail
  go_end0
  exact ⟨rfl, rfl⟩

theorem u_set_ints (h : LogAt w g lv depth vals) (hd : 0 < depth) (hl : vals.length ≤ 100000) (b i : Nat) (cs : Array Value) (t : TypeId) (wa : Option Addr) (wn wc : Nat) (na : Option Addr) (nn nc : Nat) (hb : w.heap[b]? = some (.cells cs t (0, 0))) (hi : cs[i]? = some (.slice wa wn wc)) (hn : ¬ LogF g lv b) :
    Calls Tryz.prog 244 #[.pointer (some ⟨g, 0, none⟩), .pointer (some ⟨b, i, none⟩), .slice na nn nc] w fun e w' =>
      e = unit0 ∧ SetEnd w g lv depth vals 280 58 305 b i cs t (.slice wa wn wc) (.slice na nn nc) w' := by
  have hc : ∀ o, (w.alloc o).cell? ⟨b, i, none⟩ = some (.slice wa wn wc) := fun o => by rw [cell_blk (blk_alloc hb) i, hi]
  have H := Lib.hid h
  have HB := Lib.hid hb
  have HI := Lib.hid hi
  have HN := Lib.hid hn
  have HD := Lib.hid hd
  have HL := Lib.hid hl
  clear h hb hi hn hd hl
  go_enter Tryz.func244, Tryz.ntmps244
  go_wp2_with fail
  have hx := blk_new (o := Obj.cells #[.slice wa wn wc] 58) (size_alloc (w := w) (o := Obj.cells #[.pointer (some ⟨b, i, none⟩)] 305) rfl)
  have hy := blk_alloc (o' := Obj.cells #[.slice wa wn wc] 58) (blk_new (w := w) (o := Obj.cells #[.pointer (some ⟨b, i, none⟩)] 305) rfl)
  have hb2 := blk_alloc (o' := Obj.cells #[.slice wa wn wc] 58) (blk_alloc (o' := Obj.cells #[.pointer (some ⟨b, i, none⟩)] 305) HB.out)
  have hF2 : Fr (fun _ => False) w ((w.alloc (Obj.cells #[.pointer (some ⟨b, i, none⟩)] 305)).alloc (Obj.cells #[.slice wa wn wc] 58)) := ((Fr.refl _ w).alloc _).alloc _
  have hz2 := size_alloc (o := Obj.cells #[.slice wa wn wc] 58) (size_alloc (w := w) (o := Obj.cells #[.pointer (some ⟨b, i, none⟩)] 305) rfl)
  clear hc
  generalize (w.alloc (Obj.cells #[.pointer (some ⟨b, i, none⟩)] 305)).alloc (Obj.cells #[.slice wa wn wc] 58) = w2 at *
  have hlt := H.out.lt
  have hL2 := H.out.fr hF2 (fun _ _ h => h)
  have hbl := lt_of_blk HB.out
  refine (log_back hL2 HD.out (by have := HL.out; omega) 280 #[.pointer (some ⟨w.heap.size + 1, 0, none⟩), .pointer (some ⟨w.heap.size, 0, none⟩)]).mono ?_
  rintro e w3 ⟨rfl, lv', hL3, hF3, hlv⟩
  have hx3 := hF3.blk hx (fun h => by have := hlt _ h; omega)
  have hy3 := hF3.blk hy (fun h => by have := hlt _ h; omega)
  have hb3 := hF3.blk hb2 HN.out
  have hnx : ¬ LogF g lv' (w.heap.size + 1) := by
    rintro (h | h)
    · have := hlt g (.inl rfl); omega
    · rcases hlv _ h with h | h
      · have := hlt _ (.inr h); omega
      · omega
  have hny : ¬ LogF g lv' w.heap.size := by
    rintro (h | h)
    · have := hlt g (.inl rfl); omega
    · rcases hlv _ h with h | h
      · have := hlt _ (.inr h); omega
      · omega
  have hnb : ¬ LogF g lv' b := by
    rintro (h | h)
    · exact HN.out (.inl h)
    · rcases hlv _ h with h | h
      · exact HN.out (.inr h)
      · omega
  have hcy := cell_blk hy3
  have hcb := cell_blk hb3 i
  rw [HI.out] at hcb
  have hfb := frozen_blk hb3
  have HE := Lib.hid (show SetEnd w g lv depth vals 280 58 305 b i cs t (.slice wa wn wc) (.slice na nn nc) (w3.setCell ⟨b, i, none⟩ (.slice na nn nc)) from by
    refine ⟨⟨lv', w.heap.size + 1, w.heap.size, ?_, ?_, by omega, Nat.le_refl _, hnx, hny, blk_far (p := ⟨b, i, none⟩) hx3 (by show w.heap.size + 1 ≠ b; omega), blk_far (p := ⟨b, i, none⟩) hy3 (by show w.heap.size ≠ b; omega)⟩, blk_set hb3, ?_⟩
    · exact hL3.fr ((Fr.refl (fun k => k = b) w3).setCell (p := ⟨b, i, none⟩) (fun _ => rfl) _) (fun k hk e => hnb (e ▸ hk))
    · intro k hk
      rcases hlv k hk with h | h
      · exact .inl h
      · right; omega
    · exact ((hF2.mono (G := fun k => LogF g lv k ∨ k = b) (fun _ _ h => h.elim)).trans hF3 (fun k _ h => .inl h)).setCell (p := ⟨b, i, none⟩) (fun _ => .inr rfl) _)
  clear hx hy hb2 hF2 hz2 hL2 hL3 hF3 hx3 hy3 hb3 hnx hny hnb hlv hlt hbl
  go_wp2_with fail
  go_end0
  exact ⟨rfl, HE.out⟩

theorem u_set_ints_back (x y b i : Nat) (cs : Array Value) (t : TypeId) (wa : Option Addr) (wn wc : Nat) (oa : Option Addr) (on oc : Nat) (hx : w.heap[x]? = some (.cells #[.slice wa wn wc] 58 (0, 0))) (hy : w.heap[y]? = some (.cells #[.pointer (some ⟨b, i, none⟩)] 305 (0, 0)))
    (hb : w.heap[b]? = some (.cells cs t (0, 0))) (hi : cs[i]? = some (.slice oa on oc)) :
    Calls Tryz.prog 280 (#[] ++ #[.pointer (some ⟨x, 0, none⟩), .pointer (some ⟨y, 0, none⟩)]) w fun e w' => e = unit0 ∧ w' = w.setCell ⟨b, i, none⟩ (.slice wa wn wc) := by
  have hcx := cell_blk hx
  have hcy := cell_blk hy
  have hcb := cell_blk hb i
  rw [hi] at hcb
  have hfb := frozen_blk hb
  clear hx hy hb hi
  simp only [List.nil_append, List.append_toArray]
  go_enter Tryz.func280, Tryz.ntmps280
  go_wp2_with fail
  go_end0
  exact ⟨rfl, rfl⟩

end
end Go.Proofs.YtajojhfialbfkaaGreatDoor
/- Layer 9: a key's value in a table, until it is undone. -/
namespace Go.Proofs.YtajojhfialbfkaaGreatDoor
open Go.RowKit
set_option maxRecDepth 100000

abbrev ik (a : Nat) : Value := .int .i64 (a : Int)
def ikOk (a : Nat) : Prop := a ≤ 1000000
theorem kkInt : KeyKind Tryz.prog 3 ik ikOk where
  law := Go.Maps.int_keyed Tryz.underlying3
  key a ha := ⟨_, Go.Maps.keyOf_int_mk Tryz.underlying3 (by unfold ikOk at ha; have h1 : IntKind.i64.min = -9223372036854775808 := rfl; have h2 : IntKind.i64.max = 9223372036854775807 := rfl; simp only [Lit.wf, h1, h2, Bool.and_eq_true, decide_eq_true_eq]; omega)⟩
  inj a b h := by injection h with _ h; omega

section
variable {w : World} {g : Nat} {lv : Value} {depth : Nat} {vals : List Value}

theorem four_boxes (w : World) (o1 o2 o3 o4 : Obj) :
    ((((w.alloc o1).alloc o2).alloc o3).alloc o4).heap[w.heap.size]? = some o1 ∧ ((((w.alloc o1).alloc o2).alloc o3).alloc o4).heap[w.heap.size + 1]? = some o2 ∧
    ((((w.alloc o1).alloc o2).alloc o3).alloc o4).heap[w.heap.size + 1 + 1]? = some o3 ∧ ((((w.alloc o1).alloc o2).alloc o3).alloc o4).heap[w.heap.size + 1 + 1 + 1]? = some o4 ∧
    ((((w.alloc o1).alloc o2).alloc o3).alloc o4).heap.size = w.heap.size + 1 + 1 + 1 + 1 ∧ Fr (fun _ => False) w ((((w.alloc o1).alloc o2).alloc o3).alloc o4) := by
  have s1 := size_alloc (w := w) (o := o1) rfl
  have s2 := size_alloc (o := o2) s1
  have s3 := size_alloc (o := o3) s2
  have s4 := size_alloc (o := o4) s3
  exact ⟨blk_alloc (blk_alloc (blk_alloc (blk_new rfl))), blk_alloc (blk_alloc (blk_new s1)), blk_alloc (blk_new s2), blk_new s3, s4, ((((Fr.refl _ w).alloc _).alloc _).alloc _).alloc _⟩

/-- What Put and Drop make: four boxes; the log is longer. -/
structure TabEnd (w : World) (g : Nat) (lv : Value) (depth : Nat) (vals : List Value) (fn : FuncId) (tm tk tv : TypeId) (m : Nat) (key : Value) (was : Array Value) (there : Bool) (w' : World) : Prop where
  ends : ∃ lv' x1 x2 x3 x4, LogAt w' g lv' depth (vals ++ [cl fn #[.pointer (some ⟨x1, 0, none⟩), .pointer (some ⟨x2, 0, none⟩), .pointer (some ⟨x3, 0, none⟩), .pointer (some ⟨x4, 0, none⟩)]]) ∧
    (∀ k, lv'.ownBlock = some k → lv.ownBlock = some k ∨ w.heap.size ≤ k) ∧ w.heap.size ≤ x1 ∧ w.heap.size ≤ x2 ∧ w.heap.size ≤ x3 ∧ w.heap.size ≤ x4 ∧
    ¬ LogF g lv' x1 ∧ ¬ LogF g lv' x2 ∧ ¬ LogF g lv' x3 ∧ ¬ LogF g lv' x4 ∧
    w'.heap[x1]? = some (.cells #[.map (some m)] tm (0, 0)) ∧ w'.heap[x2]? = some (.cells key.cells tk (0, 0)) ∧ w'.heap[x3]? = some (.cells was tv (0, 0)) ∧ w'.heap[x4]? = some (.cells #[.bool there] 4 (0, 0))
  fr : Fr (fun k => LogF g lv k ∨ k = m) w w'

theorem u_put_int (h : LogAt w g lv depth vals) (hd : 0 < depth) (hl : vals.length ≤ 100000) (m : Nat) (f : Nat → Option Nat) (hm : MapIs ik ik ikOk w m f) (a c : Nat) (ha : ikOk a) (hn : ¬ LogF g lv m) :
    Calls Tryz.prog 239 #[.pointer (some ⟨g, 0, none⟩), .map (some m), ik a, ik c] w fun e w' =>
      e = unit0 ∧ TabEnd w g lv depth vals 277 124 3 3 m (ik a) #[((f a).map ik).getD (.int .i64 0)] (f a).isSome w' ∧ MapIs ik ik ikOk w' m (mput f a (some c)) := by
  have hz := fun (W : World) => (show (zeroValue 3).run Tryz.prog W = .ok (.int .i64 0) W from by kernel_rfl)
  obtain ⟨r, hr⟩ : ∃ r : Int, ((f a).map ik).getD (.int .i64 0) = .int .i64 r := by
    cases f a with
    | none => exact ⟨0, rfl⟩
    | some n => exact ⟨n, rfl⟩
  rw [hr]
  generalize hb : (f a).isSome = ok
  have hlk := fun (W : World) (hW : Fr (fun _ => False) w W) => (hm.fr hW (fun h => h)).look kkInt (t := 124) (e := 3) Tryz.underlying124 (hz W) a ha true
  simp only [hr, hb, if_true] at hlk
  have HLk := Lib.hid hlk
  have H := Lib.hid h
  have HM := Lib.hid hm
  have HA := Lib.hid ha
  have HN := Lib.hid hn
  have HD := Lib.hid hd
  have HL := Lib.hid hl
  have hlw : ∀ (o1 o2 : Obj), (Instr.lookup 124 (.map (some m)) (.int .i64 (a : Int)) true).run Tryz.prog ((w.alloc o1).alloc o2) = .ok (.tuple #[.int .i64 r, .bool ok]) ((w.alloc o1).alloc o2) := fun o1 o2 => hlk _ (((Fr.refl _ w).alloc _).alloc _)
  clear hz hr hb hlk h hm ha hn hd hl
  unfold ik
  go_enter Tryz.func239, Tryz.ntmps239
  go_wp2_with fail
  obtain ⟨hx1, hx2, hx3, hx4, hz4, hF4⟩ := four_boxes w (Obj.cells #[.map (some m)] 124) (Obj.cells #[.int .i64 (a : Int)] 3) (Obj.cells #[.int .i64 r] 3) (Obj.cells #[.bool ok] 4)
  clear hlw
  generalize (((w.alloc (Obj.cells #[.map (some m)] 124)).alloc (Obj.cells #[.int .i64 (a : Int)] 3)).alloc (Obj.cells #[.int .i64 r] 3)).alloc (Obj.cells #[.bool ok] 4) = w4 at *
  have hlt := H.out.lt
  have hml := HM.out.lt
  refine (log_back (H.out.fr hF4 (fun _ _ h => h)) HD.out (by have := HL.out; omega) 277 #[.pointer (some ⟨w.heap.size, 0, none⟩), .pointer (some ⟨w.heap.size + 1, 0, none⟩), .pointer (some ⟨w.heap.size + 1 + 1, 0, none⟩), .pointer (some ⟨w.heap.size + 1 + 1 + 1, 0, none⟩)]).mono ?_
  rintro e w5 ⟨rfl, lv', hL5, hF5, hlv⟩
  have hnk : ∀ k, w.heap.size ≤ k → k < w4.heap.size → ¬ LogF g lv k ∧ ¬ LogF g lv' k := by
    intro k h1 h2
    refine ⟨fun h => by have := hlt _ h; omega, ?_⟩
    rintro (h | h)
    · have := hlt g (.inl rfl); omega
    · rcases hlv _ h with h | h
      · have := hlt _ (.inr h); omega
      · omega
  have hy1 := hF5.blk hx1 (hnk _ (by omega) (by omega)).1
  have hy2 := hF5.blk hx2 (hnk _ (by omega) (by omega)).1
  have hy3 := hF5.blk hx3 (hnk _ (by omega) (by omega)).1
  have hy4 := hF5.blk hx4 (hnk _ (by omega) (by omega)).1
  have hm5 := (HM.out.fr hF4 (fun h => h)).fr hF5 HN.out
  have hnm : ¬ LogF g lv' m := by
    rintro (h | h)
    · exact HN.out (.inl h)
    · rcases hlv _ h with h | h
      · exact HN.out (.inr h)
      · omega
  obtain ⟨w6, hrun, hm6, hF6⟩ := hm5.put kkInt (t := 124) (e := 3) Tryz.underlying124 a HA.out c
  have hc1 := cell_blk hy1
  have hc2 := cell_blk hy2
  have hE : TabEnd w g lv depth vals 277 124 3 3 m (.int .i64 (a : Int)) #[.int .i64 r] ok w6 := by
    refine ⟨⟨lv', _, _, _, _, hL5.fr hF6 (fun k hk e => hnm (e ▸ hk)), ?_, by omega, by omega, by omega, by omega, (hnk _ (by omega) (by omega)).2, (hnk _ (by omega) (by omega)).2, (hnk _ (by omega) (by omega)).2, (hnk _ (by omega) (by omega)).2, hF6.blk hy1 (by omega), hF6.blk hy2 (by omega), hF6.blk hy3 (by omega), hF6.blk hy4 (by omega)⟩, ?_⟩
    · intro k hk
      rcases hlv k hk with h | h
      · exact .inl h
      · right; omega
    · exact ((hF4.mono (G := fun k => LogF g lv k ∨ k = m) (fun _ _ h => h.elim)).trans hF5 (fun k _ h => .inl h)).trans hF6 (fun k _ h => .inr h)
  have HE := Lib.hid hE
  have HM6 := Lib.hid hm6
  unfold ik at hrun
  clear hx1 hx2 hx3 hx4 hz4 hF4 hL5 hF5 hlv hnk hy1 hy2 hy3 hy4 hm5 hnm hm6 hF6 hE hlt hml
  go_wp2_with fail
  go_end0
  exact ⟨rfl, HE.out, HM6.out⟩
theorem u_drop_int (h : LogAt w g lv depth vals) (hd : 0 < depth) (hl : vals.length ≤ 100000) (m : Nat) (f : Nat → Option Nat) (hm : MapIs ik ik ikOk w m f) (a : Nat) (ha : ikOk a) (hn : ¬ LogF g lv m) :
    Calls Tryz.prog 241 #[.pointer (some ⟨g, 0, none⟩), .map (some m) , ik a] w fun e w' =>
      e = unit0 ∧ TabEnd w g lv depth vals 279 124 3 3 m (ik a) #[((f a).map ik).getD (.int .i64 0)] (f a).isSome w' ∧ MapIs ik ik ikOk w' m (mput f a none) := by
  have hz := fun (W : World) => (show (zeroValue 3).run Tryz.prog W = .ok (.int .i64 0) W from by kernel_rfl)
  obtain ⟨r, hr⟩ : ∃ r : Int, ((f a).map ik).getD (.int .i64 0) = .int .i64 r := by
    cases f a with
    | none => exact ⟨0, rfl⟩
    | some n => exact ⟨n, rfl⟩
  rw [hr]
  generalize hb : (f a).isSome = ok
  have hlk := fun (W : World) (hW : Fr (fun _ => False) w W) => (hm.fr hW (fun h => h)).look kkInt (t := 124) (e := 3) Tryz.underlying124 (hz W) a ha true
  simp only [hr, hb, if_true] at hlk
  have HLk := Lib.hid hlk
  have H := Lib.hid h
  have HM := Lib.hid hm
  have HA := Lib.hid ha
  have HN := Lib.hid hn
  have HD := Lib.hid hd
  have HL := Lib.hid hl
  have hlw : ∀ (o1 o2 : Obj), (Instr.lookup 124 (.map (some m)) (.int .i64 (a : Int)) true).run Tryz.prog ((w.alloc o1).alloc o2) = .ok (.tuple #[.int .i64 r, .bool ok]) ((w.alloc o1).alloc o2) := fun o1 o2 => hlk _ (((Fr.refl _ w).alloc _).alloc _)
  clear hz hr hb hlk h hm ha hn hd hl
  unfold ik
  go_enter Tryz.func241, Tryz.ntmps241
  go_wp2_with fail
  obtain ⟨hx1, hx2, hx3, hx4, hz4, hF4⟩ := four_boxes w (Obj.cells #[.map (some m)] 124) (Obj.cells #[.int .i64 (a : Int)] 3) (Obj.cells #[.int .i64 r] 3) (Obj.cells #[.bool ok] 4)
  clear hlw
  generalize (((w.alloc (Obj.cells #[.map (some m)] 124)).alloc (Obj.cells #[.int .i64 (a : Int)] 3)).alloc (Obj.cells #[.int .i64 r] 3)).alloc (Obj.cells #[.bool ok] 4) = w4 at *
  have hlt := H.out.lt
  have hml := HM.out.lt
  refine (log_back (H.out.fr hF4 (fun _ _ h => h)) HD.out (by have := HL.out; omega) 279 #[.pointer (some ⟨w.heap.size, 0, none⟩), .pointer (some ⟨w.heap.size + 1, 0, none⟩), .pointer (some ⟨w.heap.size + 1 + 1, 0, none⟩), .pointer (some ⟨w.heap.size + 1 + 1 + 1, 0, none⟩)]).mono ?_
  rintro e w5 ⟨rfl, lv', hL5, hF5, hlv⟩
  have hnk : ∀ k, w.heap.size ≤ k → k < w4.heap.size → ¬ LogF g lv k ∧ ¬ LogF g lv' k := by
    intro k h1 h2
    refine ⟨fun h => by have := hlt _ h; omega, ?_⟩
    rintro (h | h)
    · have := hlt g (.inl rfl); omega
    · rcases hlv _ h with h | h
      · have := hlt _ (.inr h); omega
      · omega
  have hy1 := hF5.blk hx1 (hnk _ (by omega) (by omega)).1
  have hy2 := hF5.blk hx2 (hnk _ (by omega) (by omega)).1
  have hy3 := hF5.blk hx3 (hnk _ (by omega) (by omega)).1
  have hy4 := hF5.blk hx4 (hnk _ (by omega) (by omega)).1
  have hm5 := (HM.out.fr hF4 (fun h => h)).fr hF5 HN.out
  have hnm : ¬ LogF g lv' m := by
    rintro (h | h)
    · exact HN.out (.inl h)
    · rcases hlv _ h with h | h
      · exact HN.out (.inr h)
      · omega
  obtain ⟨w6, hrun, hm6, hF6⟩ := hm5.del kkInt (t := 124) (e := 3) Tryz.underlying124 a HA.out
  have hc1 := cell_blk hy1
  have hc2 := cell_blk hy2
  have hE : TabEnd w g lv depth vals 279 124 3 3 m (.int .i64 (a : Int)) #[.int .i64 r] ok w6 := by
    refine ⟨⟨lv', _, _, _, _, hL5.fr hF6 (fun k hk e => hnm (e ▸ hk)), ?_, by omega, by omega, by omega, by omega, (hnk _ (by omega) (by omega)).2, (hnk _ (by omega) (by omega)).2, (hnk _ (by omega) (by omega)).2, (hnk _ (by omega) (by omega)).2, hF6.blk hy1 (by omega), hF6.blk hy2 (by omega), hF6.blk hy3 (by omega), hF6.blk hy4 (by omega)⟩, ?_⟩
    · intro k hk
      rcases hlv k hk with h | h
      · exact .inl h
      · right; omega
    · exact ((hF4.mono (G := fun k => LogF g lv k ∨ k = m) (fun _ _ h => h.elim)).trans hF5 (fun k _ h => .inl h)).trans hF6 (fun k _ h => .inr h)
  have HE := Lib.hid hE
  have HM6 := Lib.hid hm6
  unfold ik at hrun
  clear hx1 hx2 hx3 hx4 hz4 hF4 hL5 hF5 hlv hnk hy1 hy2 hy3 hy4 hm5 hnm hm6 hF6 hE hlt hml
  go_wp2_with fail
  go_end0
  exact ⟨rfl, HE.out, HM6.out⟩

theorem restore_int (m : Nat) (f : Nat → Option Nat) (hm : MapIs ik ik ikOk w m f) (a : Nat) (ha : ikOk a) (o : Option Nat) (ok : Bool) (hok : o.isSome = ok) :
    Calls Tryz.prog 278 #[.map (some m), ik a, (o.map ik).getD (.int .i64 0), .bool ok] w fun e w' => e = unit0 ∧ MapIs ik ik ikOk w' m (mput f a o) ∧ Fr (fun k => k = m) w w' := by
  subst hok
  cases o with
  | none =>
    obtain ⟨w6, hrun, hm6, hF6⟩ := hm.del kkInt (t := 124) (e := 3) Tryz.underlying124 a ha
    have HM6 := Lib.hid hm6
    have HF6 := Lib.hid hF6
    unfold ik at hrun ⊢
    clear hm hm6 hF6 ha
    simp only [Option.map_none, Option.getD_none, Option.isSome_none]
    go_enter Tryz.func278, Tryz.ntmps278
    go_wp2_with fail
    refine bodyPost_ret (results_none rfl _ _ _) rfl ?_
    exact ⟨rfl, HM6.out, HF6.out⟩
  | some c =>
    obtain ⟨w6, hrun, hm6, hF6⟩ := hm.put kkInt (t := 124) (e := 3) Tryz.underlying124 a ha c
    have HM6 := Lib.hid hm6
    have HF6 := Lib.hid hF6
    unfold ik at hrun ⊢
    clear hm hm6 hF6 ha
    simp only [Option.map_some, Option.getD_some, Option.isSome_some]
    go_enter Tryz.func278, Tryz.ntmps278
    go_wp2_with fail
    go_end0
    exact ⟨rfl, HM6.out, HF6.out⟩

theorem u_put_int_back (x1 x2 x3 x4 m : Nat) (f : Nat → Option Nat) (hm : MapIs ik ik ikOk w m f) (a : Nat) (ha : ikOk a) (o : Option Nat)
    (h1 : w.heap[x1]? = some (.cells #[.map (some m)] 124 (0, 0))) (h2 : w.heap[x2]? = some (.cells (ik a).cells 3 (0, 0))) (h3 : w.heap[x3]? = some (.cells #[(o.map ik).getD (.int .i64 0)] 3 (0, 0))) (h4 : w.heap[x4]? = some (.cells #[.bool o.isSome] 4 (0, 0))) :
    Calls Tryz.prog 277 (#[] ++ #[.pointer (some ⟨x1, 0, none⟩), .pointer (some ⟨x2, 0, none⟩), .pointer (some ⟨x3, 0, none⟩), .pointer (some ⟨x4, 0, none⟩)]) w fun e w' => e = unit0 ∧ MapIs ik ik ikOk w' m (mput f a o) ∧ Fr (fun k => k = m) w w' := by
  have hc1 := cell_blk h1
  have hc2 : ∀ i, w.cell? ⟨x2, i, none⟩ = #[Value.int .i64 (a : Int)][i]? := cell_blk h2
  have hc3 := cell_blk h3
  have hc4 := cell_blk h4
  have hr := restore_int m f hm a ha o o.isSome rfl
  obtain ⟨r, hrr⟩ : ∃ r : Int, (o.map ik).getD (.int .i64 0) = .int .i64 r := by
    cases o with
    | none => exact ⟨0, rfl⟩
    | some n => exact ⟨n, rfl⟩
  rw [hrr] at hc3 hr
  unfold ik at hr
  have HR := Lib.hid hr
  clear h1 h2 h3 h4 hm ha hr hrr
  simp only [List.nil_append, List.append_toArray]
  go_enter Tryz.func277, Tryz.ntmps277
  go_wp2_with fail
  refine HR.out.mono ?_
  rintro e w' ⟨rfl, h1, h2⟩
  have H1 := Lib.hid (And.intro h1 h2)
  clear h1 h2
  go_wp2_with fail
  go_end0
  exact ⟨rfl, H1.out.1, H1.out.2⟩

theorem u_drop_int_back (x1 x2 x3 x4 m : Nat) (f : Nat → Option Nat) (hm : MapIs ik ik ikOk w m f) (a : Nat) (ha : ikOk a) (o : Option Nat)
    (h1 : w.heap[x1]? = some (.cells #[.map (some m)] 124 (0, 0))) (h2 : w.heap[x2]? = some (.cells (ik a).cells 3 (0, 0))) (h3 : w.heap[x3]? = some (.cells #[(o.map ik).getD (.int .i64 0)] 3 (0, 0))) (h4 : w.heap[x4]? = some (.cells #[.bool o.isSome] 4 (0, 0))) :
    Calls Tryz.prog 279 (#[] ++ #[.pointer (some ⟨x1, 0, none⟩), .pointer (some ⟨x2, 0, none⟩), .pointer (some ⟨x3, 0, none⟩), .pointer (some ⟨x4, 0, none⟩)]) w fun e w' => e = unit0 ∧ MapIs ik ik ikOk w' m (mput f a o) ∧ Fr (fun k => k = m) w w' := by
  have hc1 := cell_blk h1
  have hc2 : ∀ i, w.cell? ⟨x2, i, none⟩ = #[Value.int .i64 (a : Int)][i]? := cell_blk h2
  have hc3 := cell_blk h3
  have hc4 := cell_blk h4
  have hr := restore_int m f hm a ha o o.isSome rfl
  obtain ⟨r, hrr⟩ : ∃ r : Int, (o.map ik).getD (.int .i64 0) = .int .i64 r := by
    cases o with
    | none => exact ⟨0, rfl⟩
    | some n => exact ⟨n, rfl⟩
  rw [hrr] at hc3 hr
  unfold ik at hr
  have HR := Lib.hid hr
  clear h1 h2 h3 h4 hm ha hr hrr
  simp only [List.nil_append, List.append_toArray]
  go_enter Tryz.func279, Tryz.ntmps279
  go_wp2_with fail
  refine HR.out.mono ?_
  rintro e w' ⟨rfl, h1, h2⟩
  have H1 := Lib.hid (And.intro h1 h2)
  clear h1 h2
  go_wp2_with fail
  go_end0
  exact ⟨rfl, H1.out.1, H1.out.2⟩

end
end Go.Proofs.YtajojhfialbfkaaGreatDoor
