/- Layer 6: the contracts of grants' calls that change what a sector is. -/
import Derived.Deep.OwnRows
import Derived.Test.YtajojhfialbfkaaGreatDoorShelf
import Derived.Test.YtajojhfialbfkaaGreatDoorMRowStoreF02
namespace Go.Proofs.YtajojhfialbfkaaGreatDoor
open Go.RowKit
set_option maxRecDepth 100000

def GS.put (G : GS) (a what : Nat) : GS := { G with l := G.l.set (a - G.from_) what }

theorem GS.put_ok {G : GS} (ok : G.ok) (a what : Nat) (hw : what ≤ 2) : (G.put a what).ok := by
  refine ⟨fun x hx => ?_, by simpa [GS.put] using ok.len, ok.from_⟩
  rcases List.mem_or_eq_of_mem_set hx with h | h
  · exact ok.kinds x h
  · omega

theorem cells5 {f : Int} {c : Value} {a b d a' b' d' : Int} (h0 : a = a') (h1 : b = b') (h2 : d = d') :
    #[Value.int .i64 f, c, .int .i64 a, .int .i64 b, .int .i64 d] = #[Value.int .i64 f, c, .int .i64 a', .int .i64 b', .int .i64 d'] := by subst h0; subst h1; subst h2; rfl

section
variable {w : World} {m : Nat} {sv : Value} {G : GS}

theorem gr_set (h : GrAt w m sv G) (ok : G.ok) (a what : Nat) (hf : G.from_ ≤ a) (hl : a - G.from_ < G.l.length) (hw : what ≤ 2) :
    Calls Tryz.prog 131 #[.pointer (some ⟨m, 0, none⟩), .int .i64 (a : Int), .int .i64 (what : Int)] w fun e w' =>
      e = unit0 ∧ GrAt w' m sv (G.put a what) ∧ Fr (GrF m sv) w w' := by
  have h1 := ok.len
  have h2 := ok.from_
  have hx2 : G.l[a - G.from_] ≤ 2 := ok.kinds _ (List.getElem_mem hl)
  have hcnt : ∀ b, (G.l.set (a - G.from_) what).count b = G.l.count b - (if G.l[a - G.from_] == b then 1 else 0) + (if what == b then 1 else 0) := fun b => List.count_set hl
  have hpos : 0 < G.l.count G.l[a - G.from_] := List.count_pos_iff.2 (List.getElem_mem hl)
  have c0 := List.count_le_length (a := 0) (l := G.l)
  have c1 := List.count_le_length (a := 1) (l := G.l)
  have c2 := List.count_le_length (a := 2) (l := G.l)
  have hd0 := hcnt 0
  have hd1 := hcnt 1
  have hd2 := hcnt 2
  obtain ⟨g, cap, rfl, k2, hx, hfx⟩ := h.at_ (a - G.from_) hl
  have hm := h.hm
  have hmg : m ≠ g := fun e => ownsRow_ne h.row hm (by decide) (by rw [e]; rfl)
  -- what is left behind the three stores
  have key : ∀ (n : Nat) (i j : Nat) (u v : Int), j < 5 → w.heap[m]? = some (.cells #[.int .i64 (G.from_ : Int), .slice (some ⟨g, 0, none⟩) G.l.length cap, .int .i64 (G.l.count 0 : Nat), .int .i64 (G.l.count 1 : Nat), .int .i64 (G.l.count 2 : Nat)] 193 (0, 0)) →
      ((#[Value.int .i64 (G.from_ : Int), .slice (some ⟨g, 0, none⟩) G.l.length cap, .int .i64 (G.l.count 0 : Nat), .int .i64 (G.l.count 1 : Nat), .int .i64 (G.l.count 2 : Nat)].setIfInBounds i (.int .i64 u)).setIfInBounds j (.int .i64 v)) =
        #[.int .i64 (G.from_ : Int), .slice (some ⟨g, 0, none⟩) (G.put a what).l.length cap, .int .i64 ((G.put a what).l.count 0 : Nat), .int .i64 ((G.put a what).l.count 1 : Nat), .int .i64 ((G.put a what).l.count 2 : Nat)] →
      GrAt ((((w.drewN n).setCell ⟨m, i, none⟩ (.int .i64 u)).setCell ⟨g, a - G.from_, none⟩ (.int .i64 what)).setCell ⟨m, j, none⟩ (.int .i64 v)) m (.slice (some ⟨g, 0, none⟩) G.l.length cap) (G.put a what) ∧
      Fr (GrF m (.slice (some ⟨g, 0, none⟩) G.l.length cap)) w ((((w.drewN n).setCell ⟨m, i, none⟩ (.int .i64 u)).setCell ⟨g, a - G.from_, none⟩ (.int .i64 what)).setCell ⟨m, j, none⟩ (.int .i64 v)) := by
    intro n i j u v _ hb heq
    have hl0 : (G.put a what).l.length = G.l.length := by simp [GS.put]
    rw [hl0] at heq
    have hb0 : (w.drewN n).heap[m]? = some (.cells #[.int .i64 (G.from_ : Int), .slice (some ⟨g, 0, none⟩) G.l.length cap, .int .i64 (G.l.count 0 : Nat), .int .i64 (G.l.count 1 : Nat), .int .i64 (G.l.count 2 : Nat)] 193 (0, 0)) := hb
    have hb1 := blk_set (i := i) (v := .int .i64 u) hb0
    have hb2 := blk_far (p := ⟨g, a - G.from_, none⟩) (v := .int .i64 (what : Int)) hb1 hmg
    have hb3 := blk_set (i := j) (v := .int .i64 v) hb2
    rw [heq] at hb3
    have hr0 : (w.drewN n).ownsRow 0 3 1 (.slice (some ⟨g, 0, none⟩) G.l.length cap) G.l.length (icells G.l) := h.row
    have hr1 := ownsRow_far hr0 (p := ⟨m, i, none⟩) (by intro e; exact hmg (by simpa [Value.ownBlock] using e.symm)) (.int .i64 u)
    have hr2 := (hr1.stored (a - G.from_) (.int .i64 (what : Int))).1
    rw [icells_set] at hr2
    have hr3 := ownsRow_far hr2 (p := ⟨m, j, none⟩) (by intro e; exact hmg (by simpa [Value.ownBlock] using e.symm)) (.int .i64 v)
    refine ⟨⟨hb3, by rw [hl0]; exact hr3⟩, ?_⟩
    exact ((((Fr.refl _ w).drewN n).setCell (fun _ => .inl rfl) _).setCell (fun _ => .inr rfl) _).setCell (fun _ => .inl rfl) _
  have hx3 : G.l[a - G.from_] = 0 ∨ G.l[a - G.from_] = 1 ∨ G.l[a - G.from_] = 2 := by omega
  have hw3 : what = 0 ∨ what = 1 ∨ what = 2 := by omega
  rcases hx3 with hxe | hxe | hxe <;> rcases hw3 with rfl | rfl | rfl
  · rw [hxe] at hd0 hd1 hd2 hpos hx
    have e0 : (G.put a 0).l.count 0 = _ := hd0
    have e1 : (G.put a 0).l.count 1 = _ := hd1
    have e2 : (G.put a 0).l.count 2 = _ := hd2
    simp at e0 e1 e2
    have hl0 : (G.put a 0).l.length = G.l.length := by simp [GS.put]
    refine (gr_set_00 hf hl h1 h2 hmg (by omega) (by omega) (by omega) hpos hm hx hfx).mono ?_
    rintro e w' ⟨rfl, n, rfl⟩
    refine ⟨rfl, key n _ _ _ _ (by decide) hm ?_⟩
    rw [hl0]
    simp only [List.setIfInBounds_toArray, List.set_cons_succ, List.set_cons_zero]
    exact cells5 (by omega) (by omega) (by omega)
  · rw [hxe] at hd0 hd1 hd2 hpos hx
    have e0 : (G.put a 1).l.count 0 = _ := hd0
    have e1 : (G.put a 1).l.count 1 = _ := hd1
    have e2 : (G.put a 1).l.count 2 = _ := hd2
    simp at e0 e1 e2
    have hl0 : (G.put a 1).l.length = G.l.length := by simp [GS.put]
    refine (gr_set_01 hf hl h1 h2 hmg (by omega) (by omega) (by omega) hpos hm hx hfx).mono ?_
    rintro e w' ⟨rfl, n, rfl⟩
    refine ⟨rfl, key n _ _ _ _ (by decide) hm ?_⟩
    rw [hl0]
    simp only [List.setIfInBounds_toArray, List.set_cons_succ, List.set_cons_zero]
    exact cells5 (by omega) (by omega) (by omega)
  · rw [hxe] at hd0 hd1 hd2 hpos hx
    have e0 : (G.put a 2).l.count 0 = _ := hd0
    have e1 : (G.put a 2).l.count 1 = _ := hd1
    have e2 : (G.put a 2).l.count 2 = _ := hd2
    simp at e0 e1 e2
    have hl0 : (G.put a 2).l.length = G.l.length := by simp [GS.put]
    refine (gr_set_02 hf hl h1 h2 hmg (by omega) (by omega) (by omega) hpos hm hx hfx).mono ?_
    rintro e w' ⟨rfl, n, rfl⟩
    refine ⟨rfl, key n _ _ _ _ (by decide) hm ?_⟩
    rw [hl0]
    simp only [List.setIfInBounds_toArray, List.set_cons_succ, List.set_cons_zero]
    exact cells5 (by omega) (by omega) (by omega)
  · rw [hxe] at hd0 hd1 hd2 hpos hx
    have e0 : (G.put a 0).l.count 0 = _ := hd0
    have e1 : (G.put a 0).l.count 1 = _ := hd1
    have e2 : (G.put a 0).l.count 2 = _ := hd2
    simp at e0 e1 e2
    have hl0 : (G.put a 0).l.length = G.l.length := by simp [GS.put]
    refine (gr_set_10 hf hl h1 h2 hmg (by omega) (by omega) (by omega) hpos hm hx hfx).mono ?_
    rintro e w' ⟨rfl, n, rfl⟩
    refine ⟨rfl, key n _ _ _ _ (by decide) hm ?_⟩
    rw [hl0]
    simp only [List.setIfInBounds_toArray, List.set_cons_succ, List.set_cons_zero]
    exact cells5 (by omega) (by omega) (by omega)
  · rw [hxe] at hd0 hd1 hd2 hpos hx
    have e0 : (G.put a 1).l.count 0 = _ := hd0
    have e1 : (G.put a 1).l.count 1 = _ := hd1
    have e2 : (G.put a 1).l.count 2 = _ := hd2
    simp at e0 e1 e2
    have hl0 : (G.put a 1).l.length = G.l.length := by simp [GS.put]
    refine (gr_set_11 hf hl h1 h2 hmg (by omega) (by omega) (by omega) hpos hm hx hfx).mono ?_
    rintro e w' ⟨rfl, n, rfl⟩
    refine ⟨rfl, key n _ _ _ _ (by decide) hm ?_⟩
    rw [hl0]
    simp only [List.setIfInBounds_toArray, List.set_cons_succ, List.set_cons_zero]
    exact cells5 (by omega) (by omega) (by omega)
  · rw [hxe] at hd0 hd1 hd2 hpos hx
    have e0 : (G.put a 2).l.count 0 = _ := hd0
    have e1 : (G.put a 2).l.count 1 = _ := hd1
    have e2 : (G.put a 2).l.count 2 = _ := hd2
    simp at e0 e1 e2
    have hl0 : (G.put a 2).l.length = G.l.length := by simp [GS.put]
    refine (gr_set_12 hf hl h1 h2 hmg (by omega) (by omega) (by omega) hpos hm hx hfx).mono ?_
    rintro e w' ⟨rfl, n, rfl⟩
    refine ⟨rfl, key n _ _ _ _ (by decide) hm ?_⟩
    rw [hl0]
    simp only [List.setIfInBounds_toArray, List.set_cons_succ, List.set_cons_zero]
    exact cells5 (by omega) (by omega) (by omega)
  · rw [hxe] at hd0 hd1 hd2 hpos hx
    have e0 : (G.put a 0).l.count 0 = _ := hd0
    have e1 : (G.put a 0).l.count 1 = _ := hd1
    have e2 : (G.put a 0).l.count 2 = _ := hd2
    simp at e0 e1 e2
    have hl0 : (G.put a 0).l.length = G.l.length := by simp [GS.put]
    refine (gr_set_20 hf hl h1 h2 hmg (by omega) (by omega) (by omega) hpos hm hx hfx).mono ?_
    rintro e w' ⟨rfl, n, rfl⟩
    refine ⟨rfl, key n _ _ _ _ (by decide) hm ?_⟩
    rw [hl0]
    simp only [List.setIfInBounds_toArray, List.set_cons_succ, List.set_cons_zero]
    exact cells5 (by omega) (by omega) (by omega)
  · rw [hxe] at hd0 hd1 hd2 hpos hx
    have e0 : (G.put a 1).l.count 0 = _ := hd0
    have e1 : (G.put a 1).l.count 1 = _ := hd1
    have e2 : (G.put a 1).l.count 2 = _ := hd2
    simp at e0 e1 e2
    have hl0 : (G.put a 1).l.length = G.l.length := by simp [GS.put]
    refine (gr_set_21 hf hl h1 h2 hmg (by omega) (by omega) (by omega) hpos hm hx hfx).mono ?_
    rintro e w' ⟨rfl, n, rfl⟩
    refine ⟨rfl, key n _ _ _ _ (by decide) hm ?_⟩
    rw [hl0]
    simp only [List.setIfInBounds_toArray, List.set_cons_succ, List.set_cons_zero]
    exact cells5 (by omega) (by omega) (by omega)
  · rw [hxe] at hd0 hd1 hd2 hpos hx
    have e0 : (G.put a 2).l.count 0 = _ := hd0
    have e1 : (G.put a 2).l.count 1 = _ := hd1
    have e2 : (G.put a 2).l.count 2 = _ := hd2
    simp at e0 e1 e2
    have hl0 : (G.put a 2).l.length = G.l.length := by simp [GS.put]
    refine (gr_set_22 hf hl h1 h2 hmg (by omega) (by omega) (by omega) hpos hm hx hfx).mono ?_
    rintro e w' ⟨rfl, n, rfl⟩
    refine ⟨rfl, key n _ _ _ _ (by decide) hm ?_⟩
    rw [hl0]
    simp only [List.setIfInBounds_toArray, List.set_cons_succ, List.set_cons_zero]
    exact cells5 (by omega) (by omega) (by omega)
end
end Go.Proofs.YtajojhfialbfkaaGreatDoor
/- Layer 6: grants: taking, holding, giving. -/
namespace Go.Proofs.YtajojhfialbfkaaGreatDoor
open Go.RowKit
set_option maxRecDepth 100000

def GS.move (G : GS) (a f t : Nat) : GS := if G.is a f = true then G.put a t else G
/-- The least free one. -/
def GS.first (G : GS) : Nat := G.from_ + G.l.idxOf 0

section
variable {w : World} {m : Nat} {sv : Value} {G : GS}

theorem GrAt.drewN (h : GrAt w m sv G) (n : Nat) : GrAt (w.drewN n) m sv G := ⟨h.hm, h.row⟩

theorem GS.is_lt {a f : Nat} (h : G.is a f = true) : G.from_ ≤ a ∧ a - G.from_ < G.l.length := by
  simp only [GS.is, Bool.and_eq_true, decide_eq_true_eq] at h
  refine ⟨h.1, ?_⟩
  rcases Nat.lt_or_ge (a - G.from_) G.l.length with k | k
  · exact k
  · rw [List.getElem?_eq_none k] at h; exact absurd h.2 (by simp)

theorem GS.move_ok (ok : G.ok) (a f t : Nat) (ht : t ≤ 2) : (G.move a f t).ok := by
  unfold GS.move
  split
  · exact GS.put_ok ok a t ht
  · exact ok

theorem gr_move (h : GrAt w m sv G) (ok : G.ok) (a f t : Nat) (ha : a ≤ 100000) (ht : t ≤ 2) :
    Calls Tryz.prog 185 #[.pointer (some ⟨m, 0, none⟩), .int .i64 (a : Int), .int .i64 (f : Int), .int .i64 (t : Int)] w fun e w' =>
      e = .returned (.bool (G.is a f)) ∧ GrAt w' m sv (G.move a f t) ∧ Fr (GrF m sv) w w' := by
  by_cases hq : G.is a f = true
  · obtain ⟨q1, q2⟩ := GS.is_lt hq
    have hmv : G.move a f t = G.put a t := by simp [GS.move, hq]
    rw [hmv, hq]
    have HQ := Lib.hid hq
    clear hq hmv
    go_enter Tryz.func185, Tryz.ntmps185
    go_wp2_with fail
    refine (gr_is h ok a f ha).mono ?_
    rintro e w' ⟨rfl, n, rfl⟩
    rw [HQ.out]
    go_wp2_with fail
    refine (gr_set (h.drewN n) ok a t q1 q2 ht).mono ?_
    rintro e w' ⟨rfl, hg, hF⟩
    go_wp2
    go_ret
    exact ⟨rfl, hg, ((Fr.refl (GrF m sv) w).drewN n).trans hF (fun _ _ h => h)⟩
  · have hq' : G.is a f = false := by simpa using hq
    have hmv : G.move a f t = G := by simp [GS.move, hq']
    rw [hmv, hq']
    have HQ := Lib.hid hq'
    clear hq hmv hq'
    go_enter Tryz.func185, Tryz.ntmps185
    go_wp2_with fail
    refine (gr_is h ok a f ha).mono ?_
    rintro e w' ⟨rfl, n, rfl⟩
    rw [HQ.out]
    go_wp2
    go_ret
    exact ⟨rfl, h.drewN n, (Fr.refl (GrF m sv) w).drewN n⟩

theorem gr_hold (h : GrAt w m sv G) (ok : G.ok) (a : Nat) (ha : a ≤ 100000) :
    Calls Tryz.prog 204 #[.pointer (some ⟨m, 0, none⟩), .int .i64 (a : Int)] w fun e w' =>
      e = .returned (.bool (G.is a 0)) ∧ GrAt w' m sv (G.move a 0 1) ∧ Fr (GrF m sv) w w' := by
  go_enter Tryz.func204, Tryz.ntmps204
  go_wp2_with fail
  refine (gr_move h ok a 0 1 ha (by decide)).mono ?_
  rintro e w' ⟨rfl, hg, hF⟩
  go_wp2
  go_ret
  exact ⟨rfl, hg, hF⟩
theorem gr_give (h : GrAt w m sv G) (ok : G.ok) (a : Nat) (ha : a ≤ 100000) :
    Calls Tryz.prog 144 #[.pointer (some ⟨m, 0, none⟩), .int .i64 (a : Int)] w fun e w' =>
      e = .returned (.bool (G.is a 1)) ∧ GrAt w' m sv (G.move a 1 0) ∧ Fr (GrF m sv) w w' := by
  go_enter Tryz.func144, Tryz.ntmps144
  go_wp2_with fail
  refine (gr_move h ok a 1 0 ha (by decide)).mono ?_
  rintro e w' ⟨rfl, hg, hF⟩
  go_wp2
  go_ret
  exact ⟨rfl, hg, hF⟩
theorem gr_later (h : GrAt w m sv G) (ok : G.ok) (a : Nat) (ha : a ≤ 100000) :
    Calls Tryz.prog 242 #[.pointer (some ⟨m, 0, none⟩), .int .i64 (a : Int)] w fun e w' =>
      e = .returned (.bool (G.is a 1)) ∧ GrAt w' m sv (G.move a 1 2) ∧ Fr (GrF m sv) w w' := by
  go_enter Tryz.func242, Tryz.ntmps242
  go_wp2_with fail
  refine (gr_move h ok a 1 2 ha (by decide)).mono ?_
  rintro e w' ⟨rfl, hg, hF⟩
  go_wp2
  go_ret
  exact ⟨rfl, hg, hF⟩
theorem gr_back (h : GrAt w m sv G) (ok : G.ok) (a : Nat) (ha : a ≤ 100000) :
    Calls Tryz.prog 143 #[.pointer (some ⟨m, 0, none⟩), .int .i64 (a : Int)] w fun e w' =>
      e = .returned (.bool (G.is a 2)) ∧ GrAt w' m sv (G.move a 2 1) ∧ Fr (GrF m sv) w w' := by
  go_enter Tryz.func143, Tryz.ntmps143
  go_wp2_with fail
  refine (gr_move h ok a 2 1 ha (by decide)).mono ?_
  rintro e w' ⟨rfl, hg, hF⟩
  go_wp2
  go_ret
  exact ⟨rfl, hg, hF⟩

theorem ne_of_lt_idxOf : ∀ (l : List Nat) (j : Nat) (h : j < l.idxOf 0), l[j]'(Nat.lt_of_lt_of_le h List.idxOf_le_length) ≠ 0
  | [], j, h => by simp at h
  | x :: l, j, h => by
    rw [List.idxOf_cons] at h
    cases hx : (x == 0) with
    | true => simp [hx] at h
    | false =>
      cases j with
      | zero => simpa using hx
      | succ j => exact ne_of_lt_idxOf l j (by simp [hx] at h; exact h)

theorem gr_take (h : GrAt w m sv G) (ok : G.ok) (h0 : 0 < G.l.count 0) :
    Calls Tryz.prog 237 #[.pointer (some ⟨m, 0, none⟩)] w fun e w' =>
      e = .returned (.tuple #[.int .i64 (G.first : Int), .bool true]) ∧ GrAt w' m sv (G.put G.first 1) ∧ Fr (GrF m sv) w w' := by
  have hmem : 0 ∈ G.l := List.count_pos_iff.1 h0
  have hi : G.l.idxOf 0 < G.l.length := List.idxOf_lt_length_iff.2 hmem
  have hat : G.l[G.l.idxOf 0] = 0 := List.getElem_idxOf hi
  have hbe : ∀ j (hj : j < G.l.idxOf 0), G.l[j]'(by omega) ≠ 0 := fun j hj => ne_of_lt_idxOf G.l j hj
  have h1 := ok.len
  have h2 := ok.from_
  have hcell : ∀ j (hj : j < G.l.length), ∃ g cap, sv = .slice (some ⟨g, 0, none⟩) G.l.length cap ∧ cap ≤ maxLen ∧ w.cell? ⟨g, j, none⟩ = some (.int .i64 (G.l[j] : Int)) ∧ w.frozen? ⟨g, j, none⟩ = false := fun j hj => h.at_ j hj
  obtain ⟨g, cap, rfl, hcm, -, -⟩ := h.at_ (G.l.idxOf 0) hi
  have hcell : ∀ j (hj : j < G.l.length), w.cell? ⟨g, j, none⟩ = some (.int .i64 (G.l[j] : Int)) := fun j hj => by
    obtain ⟨g', cap', e, _, hc, _⟩ := h.at_ j hj
    simp only [Value.slice.injEq, Option.some.injEq, Addr.mk.injEq] at e
    rw [e.1.1]; exact hc
  have hc := cell_blk h.hm
  have H := Lib.hid h
  have HO := Lib.hid ok
  have HC := Lib.hid hcell
  have HB := Lib.hid hbe
  clear h ok hcell hbe h0 hmem
  unfold maxLen at hcm
  go_enter Tryz.func237, Tryz.ntmps237
  go_wp2_with fail
  go_loop [11] (fun i => ∃ k : Nat, k ≤ G.l.idxOf 0 ∧ i = .int .i64 (k : Int)) (fun i => G.l.length - (intOf i).toNat)
  case atStart => exact ⟨0, Nat.zero_le _, rfl⟩
  case round =>
    obtain ⟨k, hk, rfl⟩ := hrel
    have hkl : k < G.l.length := by omega
    have hck := HC.out k hkl
    by_cases hlt : k < G.l.idxOf 0
    · have hne := HB.out k hlt
      have hx : ((G.l[k] : Int) == 0) = false := by simp; exact hne
      generalize G.l[k] = x at hck hne hx
      go_wp2_with fail
      go_round
      case rel => exact ⟨k + 1, by omega, by go_num⟩
      case measure => simp [intOf]; omega
    · have hx : G.l[k] = 0 := by
        have hke : k = G.l.idxOf 0 := by omega
        subst hke; exact hat
      rw [hx] at hck
      have wk : IntKind.i64.wrap ((G.from_ : Int) + (k : Int)) = ((G.from_ + k : Nat) : Int) := by rw [IntWalk.i64_in _ (by omega)]; simp
      have hfk : G.from_ + k = G.first := by unfold GS.first; omega
      have q2 : (G.from_ + k) - G.from_ < G.l.length := by omega
      have HH := Lib.hid (gr_set H.out HO.out (G.from_ + k) 1 (by omega) q2 (by decide))
      have HK := Lib.hid hfk
      clear hcm hfk hat hx hlt
      go_wp2_with fail
      refine HH.out.mono ?_
      rintro e w' ⟨rfl, hg, hF⟩
      have hc' := cell_blk hg.hm
      have HG := Lib.hid hg
      clear hg
      go_wp2_with fail
      go_ret2
      have hg := HG.out
      rw [HK.out] at hg
      exact ⟨by rw [← HK.out]; exact congrArg (fun x => Ending.returned (.tuple #[.int .i64 x, .bool true])) ((IntWalk.i64_left _).symm.trans wk), hg, hF⟩
end
end Go.Proofs.YtajojhfialbfkaaGreatDoor
/- Layer 6: grants: Settle, New. -/
namespace Go.Proofs.YtajojhfialbfkaaGreatDoor
open Go.RowKit
set_option maxRecDepth 100000

def late0 (x : Nat) : Nat := if x = 2 then 0 else x
/-- The first k of those given up for later are free. -/
def GS.setl (G : GS) (k : Nat) : GS := { G with l := (G.l.take k).map late0 ++ G.l.drop k }
def GS.settle (G : GS) : GS := { G with l := G.l.map late0 }
def GS.fresh (from_ till : Nat) : GS := ⟨from_, List.replicate (till - from_) 0⟩

section
variable {w : World} {m : Nat} {sv : Value} {G : GS}

theorem GS.setl_len (G : GS) (k : Nat) : (G.setl k).l.length = G.l.length := by
  simp [GS.setl]; omega
theorem GS.setl_ok (ok : G.ok) (k : Nat) : (G.setl k).ok := by
  refine ⟨fun x hx => ?_, by rw [GS.setl_len]; exact ok.len, ok.from_⟩
  simp only [GS.setl, List.mem_append, List.mem_map] at hx
  rcases hx with ⟨y, hy, rfl⟩ | hx
  · have := ok.kinds y (List.mem_of_mem_take hy)
    unfold late0; split <;> omega
  · exact ok.kinds x (List.mem_of_mem_drop hx)
theorem GS.setl_zero (G : GS) : G.setl 0 = G := by simp [GS.setl]
theorem GS.setl_all (G : GS) : G.setl G.l.length = G.settle := by simp [GS.setl, GS.settle]
theorem GS.setl_get (G : GS) (k i : Nat) (h : k ≤ G.l.length) : (G.setl k).l[i]? = if i < k then (G.l[i]?).map late0 else G.l[i]? := by
  have e : ((G.l.take k).map late0).length = k := by simp; omega
  simp only [GS.setl]
  by_cases hi : i < k
  · rw [List.getElem?_append_left (by omega), if_pos hi, List.getElem?_map, List.getElem?_take_of_lt hi]
  · rw [List.getElem?_append_right (by omega), if_neg hi, e, List.getElem?_drop]
    congr 1; omega
theorem GS.setl_at (G : GS) (k : Nat) (h : k < G.l.length) : (G.setl k).l[k]'(by rw [GS.setl_len]; exact h) = G.l[k] := by
  have := GS.setl_get G k k (by omega)
  rw [if_neg (Nat.lt_irrefl k), List.getElem?_eq_getElem h, List.getElem?_eq_getElem (by rw [GS.setl_len]; exact h)] at this
  exact Option.some.inj this
theorem GS.setl_succ (G : GS) (k : Nat) (h : k < G.l.length) : (G.setl (k + 1)).l = (G.setl k).l.set k (late0 G.l[k]) := by
  apply List.ext_getElem?
  intro i
  rw [GS.setl_get G (k + 1) i (by omega), List.getElem?_set, GS.setl_get G k i (by omega), GS.setl_len]
  by_cases h1 : i < k
  · rw [if_pos (by omega), if_pos h1, if_neg (by omega)]
  · by_cases h2 : k = i
    · subst h2; rw [if_pos (by omega), if_pos rfl, if_pos h, List.getElem?_eq_getElem h]; rfl
    · rw [if_neg (by omega), if_neg h1, if_neg h2]
theorem GS.from_l {A B : GS} (h1 : A.from_ = B.from_) (h2 : A.l = B.l) : A = B := by
  cases A; cases B; simp_all
theorem GS.setl_put (G : GS) (k : Nat) (h : k < G.l.length) (hx : G.l[k] = 2) : (G.setl k).put (G.from_ + k) 0 = G.setl (k + 1) := by
  have := GS.setl_succ G k h
  rw [hx] at this
  refine GS.from_l rfl ?_
  rw [this]
  show (G.setl k).l.set (G.from_ + k - G.from_) 0 = _
  rw [Nat.add_sub_cancel_left]; rfl
theorem GS.setl_same (G : GS) (k : Nat) (h : k < G.l.length) (hx : G.l[k] ≠ 2) : G.setl (k + 1) = G.setl k := by
  have := GS.setl_succ G k h
  have e : late0 G.l[k] = (G.setl k).l[k]'(by rw [GS.setl_len]; exact h) := by rw [GS.setl_at G k h]; simp [late0, hx]
  rw [e, List.set_getElem_self] at this
  exact GS.from_l rfl this
theorem GS.settle_ok (ok : G.ok) : G.settle.ok := by rw [← GS.setl_all]; exact GS.setl_ok ok _

theorem gr_settle (h : GrAt w m sv G) (ok : G.ok) (h0 : 0 < G.l.length) :
    Calls Tryz.prog 84 #[.pointer (some ⟨m, 0, none⟩)] w fun e w' =>
      e = unit0 ∧ GrAt w' m sv G.settle ∧ Fr (GrF m sv) w w' := by
  have h1 := ok.len
  have h2 := ok.from_
  obtain ⟨g, cap, cur, rfl, k1, k2, k3, k4, k5⟩ := ownsRow_at h.row (by omega)
  have hc := cell_blk h.hm
  have hcm : cap ≤ maxLen := by assumption
  have H := Lib.hid h
  have HO := Lib.hid ok
  clear h ok k1 k2 k3 k4 k5
  unfold maxLen at hcm
  go_enter Tryz.func84, Tryz.ntmps84
  go_wp2_with fail
  go_loopw [9] (fun i w' => ∃ k : Nat, k ≤ G.l.length ∧ i = .int .i64 (k : Int) ∧ GrAt w' m (.slice (some ⟨g, 0, none⟩) G.l.length cap) (G.setl k) ∧ Fr (GrF m (.slice (some ⟨g, 0, none⟩) G.l.length cap)) w w') (fun i _ => G.l.length - (intOf i).toNat)
  case atStart => exact ⟨0, Nat.zero_le _, rfl, by rw [GS.setl_zero]; exact H.out, Fr.refl _ _⟩
  case round =>
    obtain ⟨k, hk, rfl, hg, hF⟩ := hrel
    have hc := cell_blk hg.hm
    rcases Nat.lt_or_ge k G.l.length with hlt | hge
    · obtain ⟨g', cap', e, -, hck, -⟩ := hg.at_ k (by rw [GS.setl_len]; exact hlt)
      simp only [GS.setl_len, Value.slice.injEq, Option.some.injEq, Addr.mk.injEq] at e
      obtain ⟨⟨rfl, -⟩, -, rfl⟩ := e
      rw [GS.setl_at G k hlt] at hck
      have HG := Lib.hid hg
      have HF := Lib.hid hF
      clear hg hF
      by_cases hx : G.l[k] = 2
      · have wk : IntKind.i64.wrap ((G.from_ : Int) + (k : Int)) = ((G.from_ + k : Nat) : Int) := by rw [IntWalk.i64_in _ (by omega)]; simp
        have q2 : (G.from_ + k) - G.from_ < (G.setl k).l.length := by rw [GS.setl_len]; omega
        have hs := gr_set HG.out (GS.setl_ok HO.out k) (G.from_ + k) 0 (Nat.le_add_right _ _) q2 (by decide)
        rw [GS.setl_put G k hlt hx] at hs
        have HH := Lib.hid hs
        rw [hx] at hck
        clear hs hx
        have ef : (G.setl k).from_ = G.from_ := rfl
        rw [ef] at hc
        clear ef
        go_wp2_with fail
        refine HH.out.mono ?_
        rintro e w' ⟨rfl, hg, hF⟩
        go_wp2
        go_roundw
        case rel => exact ⟨k + 1, hlt, by go_num, hg, HF.out.trans hF (fun _ _ h => h)⟩
        case measure => simp [intOf]; omega
      · have hxx : ((G.l[k] : Int) == 2) = false := by simp; omega
        have hs := GS.setl_same G k hlt hx
        rw [← hs] at HG
        clear hs hx
        generalize G.l[k] = x at hck hxx
        go_wp2_with fail
        go_roundw
        case rel => exact ⟨k + 1, hlt, by go_num, HG.out, HF.out⟩
        case measure => simp [intOf]; omega
    · have hk2 := Lib.hid (show k = G.l.length by omega)
      have HG := Lib.hid hg
      have HF := Lib.hid hF
      clear hg hF
      go_wp2_with fail
      go_end0
      refine ⟨rfl, ?_, HF.out⟩
      have := HG.out
      rw [hk2.out, GS.setl_all] at this
      exact this

theorem gr_new (a b : Nat) (ha : a < b) (hb : b ≤ 4096) :
    Calls Tryz.prog 76 #[.int .i64 (a : Int), .int .i64 (b : Int)] w fun e w' =>
      ∃ m sv, e = .returned (.pointer (some ⟨m, 0, none⟩)) ∧ GrAt w' m sv (GS.fresh a b) ∧ Fr (fun _ => False) w w' ∧ (∀ k, GrF m sv k → w.heap.size ≤ k) := by
  have e1 : IntKind.i64.wrap ((b : Int) - (a : Int)) = ((b - a : Nat) : Int) := by rw [IntWalk.i64_in _ (by omega)]; omega
  have hmk := fun W => run_make_row' (P := Tryz.prog) 58 3 (.int .i64 0) 8 (by kernel_rfl) (by kernel_rfl) rfl .i64 .i64 (b - a) (by omega) (by omega) W
  go_enter Tryz.func76, Tryz.ntmps76
  go_wp2_with fail
  have hm : ((w.alloc (Obj.cells (madeCells #[.int .i64 0] (b - a)) 3)).alloc (Obj.cells #[.int .i64 (a : Int), .slice (some ⟨w.heap.size, 0, none⟩) (b - a : Nat) (b - a : Nat), .int .i64 0, .int .i64 0, .int .i64 0] 193)).heap[w.heap.size + 1]? = some (.cells #[.int .i64 (a : Int), .slice (some ⟨w.heap.size, 0, none⟩) (b - a : Nat) (b - a : Nat), .int .i64 0, .int .i64 0, .int .i64 0] 193 (0, 0)) := by
    have := blk_alloc_new (w.alloc (Obj.cells (madeCells #[.int .i64 0] (b - a)) 3)) (Obj.cells #[.int .i64 (a : Int), .slice (some ⟨w.heap.size, 0, none⟩) (b - a : Nat) (b - a : Nat), .int .i64 0, .int .i64 0, .int .i64 0] 193)
    simpa using this
  have hc := cell_blk hm
  have hfz := frozen_blk hm
  refine wp_region_mix 9 (fun w' => (∀ i, w'.cell? ⟨w.heap.size + 1, i, none⟩ = #[.int .i64 (a : Int), .slice (some ⟨w.heap.size, 0, none⟩) (b - a : Nat) (b - a : Nat), .int .i64 0, .int .i64 0, .int .i64 0][i]?)) [true, true, true, true, true, true, true, true, true] (by kernel_rfl) (by kernel_rfl) ?_ (by intro c a d v w h; cases d <;> exact h) ?_
  · exact hc
  simp only [List.take_succ_cons, List.take_zero, List.drop_succ_cons, List.drop_zero]
  repeat ((with_reducible refine wpMix_read ?_ (fun K hK => ?_)); (focus rfl); apply Exists.intro; refine ⟨fun w' hS => ?_, ?_⟩; (focus (try dsimp only at hS; go_simp; try rfl)); go_simp; refine hK _ ?_; clear hK K)
  refine wpMix_nil ?_
  go_wp2_with fail
  go_ret
  have h0 : w.heap[w.heap.size + 1]? = none := by simp
  have hr0 : (w.alloc (Obj.cells (madeCells #[.int .i64 0] (b - a)) 3)).heap[w.heap.size]? = some (.cells (madeCells #[.int .i64 0] (b - a)) 3 (0, 0)) := blk_alloc_new _ _
  have hmc : (madeCells #[Value.int .i64 0] (b - a)).toList = icells (List.replicate (b - a) 0) := by
    refine List.ext_getElem (by simp [madeCells, icells]) fun i h1 h2 => ?_
    simp [madeCells, icells, Nat.mod_one]
  refine ⟨w.heap.size + 1, .slice (some ⟨w.heap.size, 0, none⟩) (b - a) (b - a), rfl, ⟨?_, ?_⟩, ?_, ?_⟩
  · have := blk_alloc_new (w.alloc (Obj.cells (madeCells #[.int .i64 0] (b - a)) 3)) (Obj.cells #[.int .i64 (a : Int), .slice (some ⟨w.heap.size, 0, none⟩) (b - a : Nat) (b - a : Nat), .int .i64 ((b - a : Nat) : Int), .int .i64 0, .int .i64 0] 193)
    rw [show (w.alloc (Obj.cells (madeCells #[.int .i64 0] (b - a)) 3)).heap.size = w.heap.size + 1 by simp] at this
    simp only [GS.fresh, List.count_replicate]
    exact this
  · have hl : (GS.fresh a b).l.length = b - a := by simp [GS.fresh]
    rw [hl]
    refine ⟨?_, .inr ⟨w.heap.size, b - a, madeCells #[.int .i64 0] (b - a), rfl, Nat.zero_le _, ?_, Nat.le_refl _, ?_, ?_, ?_⟩⟩
    · simp [GS.fresh, icells]
    · exact (Below.heap_alloc _ _ _ (by simp)).trans hr0
    · unfold maxLen; omega
    · simp [madeCells]
    · rw [List.take_of_length_le (by simp [madeCells]), hmc]; rfl
  · exact (((Fr.refl _ w).alloc _).alloc _).drew
  · rintro k (rfl | hk)
    · omega
    · have : w.heap.size = k := by simpa [Value.ownBlock] using hk
      omega
end
end Go.Proofs.YtajojhfialbfkaaGreatDoor
/- Layer 3: Out.Fill; noughts. -/
namespace Go.Proofs.YtajojhfialbfkaaGreatDoor
open Go.RowKit
set_option maxRecDepth 100000

theorem repeatL_one (x : UInt8) : ∀ n, Lib.repeatL [x] n = List.replicate n x
  | 0 => rfl
  | n + 1 => by simp [Lib.repeatL, repeatL_one x n, List.replicate_succ]

/-- So many noughts. -/
def zeros (n : Nat) : List UInt8 := List.replicate n 0

theorem repeat_zeros (n : Nat) (hn : n ≤ 100000) (w : World) :
    Calls Tryz.prog 24 #[.string ⟨#[0]⟩, .int .i64 (n : Int)] w fun e w' => e = .returned (.string (bstr (zeros n))) ∧ Below w.heap.size w w' := by
  refine (Tryz.strings_Repeat ⟨#[0]⟩ n w (by omega) (by show 1 * n ≤ 140737488355328; omega)).mono ?_
  rintro e w' ⟨rfl, h⟩
  refine ⟨?_, h⟩
  show Ending.returned (.string ⟨(Lib.repeatL [0] n).toArray⟩) = _
  rw [repeatL_one]; rfl

/-- Filled up. -/
def filled (l : List UInt8) (n : Nat) : List UInt8 := l ++ zeros (n - l.length)

theorem out_fill (B o : Nat) (l : List UInt8) (n : Nat) (hl : l.length ≤ n) (hn : n ≤ 100000) (w : World) (h : OutAt w B o l) (hB : B ≤ w.heap.size) :
    Calls Tryz.prog 106 #[.pointer (some ⟨o, 0, none⟩), .int .i64 (n : Int)] w fun e w' =>
      e = .returned (.pointer (some ⟨o, 0, none⟩)) ∧ OutAt w' B o (filled l n) ∧ Below B w w' := by
  have H := Lib.hid h
  obtain ⟨hge, v, hb, hrow⟩ := h
  have hc := cell_blk hb
  obtain ⟨ao, cap, rfl, hc1, hc2⟩ := ownsRow_form hrow
  unfold maxLen at hc2
  have e1 : ((n : Int) - (l.length : Int)).toNat = n - l.length := by omega
  have e2 : (n : Int) - (l.length : Int) = ((n - l.length : Nat) : Int) := by omega
  have HB := Lib.hid hb
  clear hrow hb
  go_enter Tryz.func106, Tryz.ntmps106
  go_wp2_with fail
  refine (repeat_zeros (n - l.length) (by omega) _).mono ?_
  rintro e w' ⟨rfl, hbel⟩
  have hO : OutAt w' B o l := by
    obtain ⟨g1, v, g2, g3⟩ := H.out
    exact ⟨g1, v, blk_below g2 hbel (lt_of_blk g2), ownsRow_fr g3 (Fr.of_below (F := fun _ => False) hbel) (fun _ _ h => h)⟩
  have hs := out_text B o l (bstr (zeros (n - l.length))) (by rw [size_bstr]; simp [zeros]; omega) w' hO (by have := hbel.size; omega)
  rw [show (bstr (zeros (n - l.length))).data.toList = zeros (n - l.length) from rfl] at hs
  have HS := Lib.hid hs
  have HBe := Lib.hid hbel
  clear hs hO hbel hc
  go_wp2_with fail
  refine HS.out.mono ?_
  rintro e w'' ⟨rfl, h1, h2⟩
  go_wp2_with fail
  go_ret
  exact ⟨rfl, h1, (HBe.out.mono hB).trans h2⟩

theorem out_fill_big (B o : Nat) (l : List UInt8) (n : Nat) (hl : n < l.length) (_hn : n ≤ 100000) (hl2 : l.length ≤ 140737488355328) (w : World) (h : OutAt w B o l) :
    Calls Tryz.prog 106 #[.pointer (some ⟨o, 0, none⟩), .int .i64 (n : Int)] w fun e w' =>
      e = failed 3 ∧ w = w' := by
  obtain ⟨hge, v, hb, hrow⟩ := h
  have hc := cell_blk hb
  obtain ⟨ao, cap, rfl, hc1, hc2⟩ := ownsRow_form hrow
  clear hrow hb
  have HL := Lib.hid hl2
  clear hl2
  go_enter Tryz.func106, Tryz.ntmps106
  go_wp2_with fail
  refine (fail_any _ _).mono ?_
  rintro e w' ⟨rfl, rfl⟩
  exact ⟨rfl, rfl, rfl⟩

end Go.Proofs.YtajojhfialbfkaaGreatDoor
/- Layer 4: what writes on a disk. -/
namespace Go.Proofs.YtajojhfialbfkaaGreatDoor
open Go.RowKit
set_option maxRecDepth 100000

/-- Does the next call work? -/
def DS.can (D : DS) : Bool := !D.armed || decide (D.left ≠ 0)
/-- One call less. -/
def DS.spent (D : DS) : DS := if D.armed = true then { D with left := D.left - 1 } else D
/-- The power is cut. -/
def DS.cut (D : DS) : DS := { D with dead := true }
def DS.put (D : DS) (k : Nat) (s : ByteArray) : DS := { D with l := D.l.modify k (fun x => (x.1, s)) }
def DS.sync (D : DS) : DS := { D with l := D.l.map (fun x => (x.2, x.2)) }

theorem secs_put (l : List (ByteArray × ByteArray)) (s : ByteArray) (i : Nat) (h : i < l.length) : (secs l).set (i * 2 + 1) (.string s) = secs (l.modify i (fun x => (x.1, s))) := by
  rw [secs_set_now l s i h]
  congr 1
  refine List.ext_getElem? fun j => ?_
  rw [List.getElem?_set, List.getElem?_modify]
  by_cases hj : i = j
  · subst hj; simp [h]
  · simp [hj]

section
variable {w : World} {d : Nat} {sv : Value} {D : DS}

theorem DS.spent_l (D : DS) : D.spent.l = D.l := by unfold DS.spent; split <;> rfl
theorem DS.spent_dead (D : DS) : D.spent.dead = D.dead := by unfold DS.spent; split <;> rfl

theorem disk_len (h : DiskAt w d sv D) :
    Calls Tryz.prog 77 #[.pointer (some ⟨d, 0, none⟩)] w fun e w' => e = .returned (.int .i64 (D.l.length : Int)) ∧ w = w' := by
  have cd := cell_blk h.hd
  obtain ⟨ao, cap, rfl, h1, h2⟩ := h.form
  clear h
  go_enter Tryz.func77, Tryz.ntmps77
  go_wp2_with fail
  go_ret
  exact ⟨rfl, rfl⟩

theorem DiskAt.set {v : Value} {i : Nat} {a' : Bool} {l' : Int} {z' : Bool} (h : DiskAt w d sv D)
    (e : #[sv, .bool D.armed, .int .i64 D.left, .bool D.dead].setIfInBounds i v = #[sv, .bool a', .int .i64 l', .bool z']) :
    DiskAt (w.setCell ⟨d, i, none⟩ v) d sv ⟨D.l, a', l', z'⟩ :=
  ⟨by have := blk_set (i := i) (v := v) h.hd; rw [e] at this; exact this, ownsRow_far h.row (ownsRow_ne h.row h.hd (by decide)) _⟩

theorem spend_any (h : DiskAt w d sv D) (hz : D.dead = false) (h0 : 0 ≤ D.left) (h1 : D.left ≤ 1000000) :
    Calls Tryz.prog 108 #[.pointer (some ⟨d, 0, none⟩)] w fun e w' =>
      ((e = unit0 ∧ D.can = true ∧ DiskAt w' d sv D.spent) ∨ (e = failed 12 ∧ D.can = false ∧ DiskAt w' d sv D.cut)) ∧ Fr (fun k => k = d) w w' := by
  have cd := cell_blk h.hd
  have fd := frozen_blk h.hd
  have ha := alive_ok h hz
  have H := Lib.hid h
  have HA := Lib.hid ha
  have HZ := Lib.hid hz
  clear h ha hz
  by_cases harm : D.armed = true
  · by_cases hl : D.left = 0
    · have HR := Lib.hid harm
      have HL := Lib.hid hl
      have cd' : ∀ i, w.cell? ⟨d, i, none⟩ = #[sv, .bool true, .int .i64 0, .bool D.dead][i]? := by rw [harm, hl] at cd; exact cd
      clear cd harm hl h0 h1
      go_enter Tryz.func108, Tryz.ntmps108
      go_wp2_with fail
      refine HA.out.mono ?_
      rintro e w' ⟨rfl, rfl⟩
      go_wp2_with fail
      refine (fail_any _ _).mono ?_
      rintro e w' ⟨rfl, rfl⟩
      refine ⟨rfl, .inr ⟨rfl, by unfold DS.can; rw [HR.out, HL.out]; rfl, H.out.set ?_⟩, (Fr.refl (fun k => k = d) w).setCell (p := ⟨d, 3, none⟩) (fun _ => rfl) _⟩
      rw [HR.out, HL.out]; rfl
    · have hx : (D.left == 0) = false := by simpa using hl
      have HR := Lib.hid harm
      have HL := Lib.hid hl
      have cd' : ∀ i, w.cell? ⟨d, i, none⟩ = #[sv, .bool true, .int .i64 D.left, .bool D.dead][i]? := by rw [harm] at cd; exact cd
      have wk : IntKind.i64.wrap (D.left - 1) = D.left - 1 := IntWalk.i64_in _ (by omega)
      clear cd harm hl h0 h1
      go_enter Tryz.func108, Tryz.ntmps108
      go_wp2_with fail
      refine HA.out.mono ?_
      rintro e w' ⟨rfl, rfl⟩
      go_wp2_with fail
      go_end0
      refine ⟨.inl ⟨rfl, by unfold DS.can; simp [HL.out], ?_⟩, (Fr.refl (fun k => k = d) w).setCell (p := ⟨d, 2, none⟩) (fun _ => rfl) _⟩
      have e : D.spent = ⟨D.l, D.armed, D.left - 1, D.dead⟩ := by unfold DS.spent; rw [if_pos HR.out]
      rw [e]
      exact H.out.set rfl
  · have hf : D.armed = false := by simpa using harm
    have HR := Lib.hid hf
    have cd' : ∀ i, w.cell? ⟨d, i, none⟩ = #[sv, .bool false, .int .i64 D.left, .bool D.dead][i]? := by rw [hf] at cd; exact cd
    clear cd harm hf h0 h1
    go_enter Tryz.func108, Tryz.ntmps108
    go_wp2_with fail
    refine HA.out.mono ?_
    rintro e w' ⟨rfl, rfl⟩
    go_wp2_with fail
    refine bodyPost_ret (results_none rfl _ _ _) rfl ?_
    refine ⟨.inl ⟨rfl, by unfold DS.can; simp [HR.out], ?_⟩, Fr.refl _ _⟩
    have e : D.spent = D := by unfold DS.spent; rw [if_neg (by rw [HR.out]; decide)]
    rw [e]
    exact H.out

theorem DiskAt.now {g n cap : Nat} (h : DiskAt w d (.slice (some ⟨g, 0, none⟩) n cap) D) (k : Nat) (hk : k < D.l.length) (s : ByteArray) :
    DiskAt (w.setCell ⟨g, k * 2 + 1, none⟩ (.string s)) d (.slice (some ⟨g, 0, none⟩) n cap) (D.put k s) := by
  have hne : d ≠ g := fun e => ownsRow_ne h.row h.hd (by decide) (by rw [e]; rfl)
  refine ⟨blk_far (p := ⟨g, k * 2 + 1, none⟩) h.hd hne, ?_⟩
  have hn : n = D.l.length := by
    obtain ⟨ao, cap', e, _, _⟩ := h.form
    injection e
  subst hn
  have := (h.row.stored (k * 2 + 1) (.string s)).1
  rw [secs_put D.l s k hk] at this
  show World.ownsRow _ _ _ _ _ (D.l.modify k _).length (secs (D.l.modify k _))
  rw [List.length_modify]
  exact this

/-- A sector written. -/
def DS.wrote (D : DS) (k : Nat) (s : ByteArray) : DS := D.spent.put k (bstr (filled s.data.toList 64))

theorem disk_write (h : DiskAt w d sv D) (hz : D.dead = false) (h0 : 0 ≤ D.left) (h1 : D.left ≤ 1000000) (k : Nat) (hk : k < D.l.length) (s : ByteArray) (hs : s.size ≤ 64) :
    Calls Tryz.prog 47 #[.pointer (some ⟨d, 0, none⟩), .int .i64 (k : Int), .string s] w fun e w' =>
      ((e = unit0 ∧ D.can = true ∧ DiskAt w' d sv (D.wrote k s)) ∨ (e = failed 12 ∧ D.can = false ∧ DiskAt w' d sv D.cut)) ∧ Fr (DiskF d sv) w w' := by
  have H := Lib.hid h
  have HA := Lib.hid (alive_ok h hz)
  have HC := Lib.hid (check_ok h k hk)
  have HZ := Lib.hid hz
  have H0 := Lib.hid h0
  have H1 := Lib.hid h1
  have HK := Lib.hid hk
  have HT := Lib.hid hs
  clear h hz h0 h1 hk hs
  go_enter Tryz.func47, Tryz.ntmps47
  go_wp2_with fail
  refine HA.out.mono ?_
  rintro e w' ⟨rfl, rfl⟩
  go_wp2_with fail
  refine HC.out.mono ?_
  rintro e w' ⟨rfl, rfl⟩
  go_wp2_with fail
  have hO : OutAt (w.alloc (Obj.cells #[.slice none 0 0] 182)) w.heap.size w.heap.size [] :=
    ⟨Nat.le_refl _, .slice none 0 0, blk_alloc_new _ _, by simp [bcells], .inl ⟨rfl, rfl⟩⟩
  refine (out_text w.heap.size w.heap.size [] s (by have := HT.out; simp; omega) _ hO (by simp)).mono ?_
  rintro e w1 ⟨rfl, hO, hb1⟩
  have hb1 : Below w.heap.size w w1 := ((Below.refl _ w).alloc (Nat.le_refl _) _).trans hb1
  have HO := Lib.hid hO
  have HB1 := Lib.hid hb1
  clear hO hb1
  go_wp2_with fail
  refine (out_fill w.heap.size w.heap.size ([] ++ s.data.toList) 64 (show ([] ++ s.data.toList).length ≤ 64 from HT.out) (by decide) w1 HO.out HB1.out.size).mono ?_
  rintro e w2 ⟨rfl, hO, hb2⟩
  have hb2 := HB1.out.trans hb2
  have hby := out_bytes _ _ _ _ hO
  rw [List.nil_append] at hby
  have HBy := Lib.hid hby
  have HB2 := Lib.hid hb2
  clear hO hb2 hby
  go_wp2_with fail
  refine HBy.out.mono ?_
  rintro e w3 ⟨rfl, rfl⟩
  have hd : DiskAt w2 d sv D := H.out.fr (Fr.of_below (F := fun _ => False) HB2.out) (fun _ _ h => h)
  have HD := Lib.hid hd
  clear hd
  go_wp2_with fail
  refine (spend_any HD.out HZ.out H0.out H1.out).mono ?_
  rintro e w3 ⟨⟨rfl, hcan, hd⟩ | ⟨rfl, hcan, hd⟩, hF⟩
  · have hk := HK.out
    rw [← DS.spent_l] at hk
    have HF := Lib.hid hF
    have HCN := Lib.hid hcan
    have HDD := Lib.hid hd
    have cd := cell_blk hd.hd
    obtain ⟨g, cap, cur, rfl, k1, k2, k3, k4, k5⟩ := ownsRow_at hd.row (by omega)
    have hcg := HDD.out.row.cellAt (k * 2 + 1) (by omega)
    have fg := frozen_blk k3 (k * 2 + 1)
    rw [secs_now _ k hk] at hcg
    unfold maxLen at k2
    clear hF hcan hd
    go_wp2_with fail
    go_end0
    have hF := HF.out
    refine ⟨.inl ⟨rfl, HCN.out, HDD.out.now k hk _⟩, ?_⟩
    exact ((Fr.of_below HB2.out).trans hF (fun x _ e => .inl e)).setCell (p := ⟨g, k * 2 + 1, none⟩) (fun _ => .inr rfl) _
  · refine ⟨rfl, .inr ⟨rfl, hcan, hd⟩, ?_⟩
    exact (Fr.of_below HB2.out).trans hF (fun x _ e => .inl e)
end
end Go.Proofs.YtajojhfialbfkaaGreatDoor
/- Layer 4: Sync, Loose, New, Arm, Crash; writes that fail. -/
namespace Go.Proofs.YtajojhfialbfkaaGreatDoor
open Go.RowKit
set_option maxRecDepth 100000

section
variable {α : Type}
/-- The first k of a list are turned. -/
def mapTo (f : α → α) (l : List α) (k : Nat) : List α := (l.take k).map f ++ l.drop k
theorem mapTo_length (f : α → α) (l : List α) (k : Nat) : (mapTo f l k).length = l.length := by simp [mapTo]; omega
theorem mapTo_zero (f : α → α) (l : List α) : mapTo f l 0 = l := by simp [mapTo]
theorem mapTo_all (f : α → α) (l : List α) : mapTo f l l.length = l.map f := by simp [mapTo]
theorem mapTo_get (f : α → α) (l : List α) (k i : Nat) (h : k ≤ l.length) : (mapTo f l k)[i]? = if i < k then (l[i]?).map f else l[i]? := by
  have e : ((l.take k).map f).length = k := by simp; omega
  simp only [mapTo]
  by_cases hi : i < k
  · rw [List.getElem?_append_left (by omega), if_pos hi, List.getElem?_map, List.getElem?_take_of_lt hi]
  · rw [List.getElem?_append_right (by omega), if_neg hi, e, List.getElem?_drop]
    congr 1; omega
theorem mapTo_at (f : α → α) (l : List α) (k : Nat) (h : k < l.length) : (mapTo f l k)[k]? = some l[k] := by
  rw [mapTo_get f l k k (by omega), if_neg (Nat.lt_irrefl k), List.getElem?_eq_getElem h]
theorem mapTo_succ (f : α → α) (l : List α) (k : Nat) (h : k < l.length) : mapTo f l (k + 1) = (mapTo f l k).modify k f := by
  apply List.ext_getElem?
  intro i
  rw [mapTo_get f l (k + 1) i (by omega), List.getElem?_modify, mapTo_get f l k i (by omega)]
  by_cases h1 : i < k
  · have hki : ¬ k = i := by omega
    rw [if_pos (by omega), if_pos h1]; simp [hki]
  · by_cases h2 : k = i
    · subst h2; rw [if_pos (by omega), if_neg (by omega)]; simp
    · rw [if_neg (by omega), if_neg h1]; simp [h2]
end

theorem secs_sync (l : List (ByteArray × ByteArray)) (i : Nat) (h : i < l.length) : (secs l).set (i * 2) (.string l[i].2) = secs (l.modify i (fun x => (x.2, x.2))) := by
  rw [secs_set_sure l _ i h]
  congr 1
  refine List.ext_getElem? fun j => ?_
  rw [List.getElem?_set, List.getElem?_modify]
  by_cases hj : i = j
  · subst hj; simp [h]
  · simp [hj]

section
variable {w : World} {d : Nat} {sv : Value} {D : DS}

def sy (x : ByteArray × ByteArray) : ByteArray × ByteArray := (x.2, x.2)
def DS.syncTo (D : DS) (k : Nat) : DS := { D with l := mapTo sy D.l k }
theorem DS.syncTo_zero (D : DS) : D.syncTo 0 = D := by simp [DS.syncTo, mapTo_zero]
theorem DS.syncTo_all (D : DS) : D.syncTo D.l.length = D.sync := by simp [DS.syncTo, mapTo_all, DS.sync, sy]
theorem DS.syncTo_len (D : DS) (k : Nat) : (D.syncTo k).l.length = D.l.length := mapTo_length _ _ _

theorem DiskAt.sure {g n cap : Nat} (h : DiskAt w d (.slice (some ⟨g, 0, none⟩) n cap) D) (k : Nat) (hk : k < D.l.length) :
    DiskAt (w.setCell ⟨g, k * 2, none⟩ (.string D.l[k].2)) d (.slice (some ⟨g, 0, none⟩) n cap) { D with l := D.l.modify k sy } := by
  have hne : d ≠ g := fun e => ownsRow_ne h.row h.hd (by decide) (by rw [e]; rfl)
  refine ⟨blk_far (p := ⟨g, k * 2, none⟩) h.hd hne, ?_⟩
  have hn : n = D.l.length := by
    obtain ⟨ao, cap', e, _, _⟩ := h.form
    injection e
  subst hn
  have := (h.row.stored (k * 2) (.string D.l[k].2)).1
  rw [secs_sync D.l k hk] at this
  show World.ownsRow _ _ _ _ _ (D.l.modify k _).length (secs (D.l.modify k _))
  rw [List.length_modify]
  exact this

theorem DiskAt.drew (h : DiskAt w d sv D) : DiskAt w.drew d sv D := ⟨h.hd, h.row⟩
theorem DiskAt.drewN (h : DiskAt w d sv D) (n : Nat) : DiskAt (w.drewN n) d sv D := ⟨h.hd, h.row⟩

theorem disk_sync (h : DiskAt w d sv D) (hz : D.dead = false) (h0 : 0 ≤ D.left) (h1 : D.left ≤ 1000000) (hn : 0 < D.l.length) (hn2 : D.l.length ≤ 4096) :
    Calls Tryz.prog 101 #[.pointer (some ⟨d, 0, none⟩)] w fun e w' =>
      ((e = unit0 ∧ D.can = true ∧ DiskAt w' d sv D.spent.sync) ∨ (e = failed 12 ∧ D.can = false ∧ DiskAt w' d sv D.cut)) ∧ Fr (DiskF d sv) w w' := by
  have HS := Lib.hid (spend_any h hz h0 h1)
  clear h hz h0 h1
  go_enter Tryz.func101, Tryz.ntmps101
  go_wp2_with fail
  refine HS.out.mono ?_
  rintro e w3 ⟨⟨rfl, hcan, hd⟩ | ⟨rfl, hcan, hd⟩, hF⟩
  · have hl := DS.spent_l D
    rw [← hl] at hn hn2
    have HF := Lib.hid hF
    have HCN := Lib.hid hcan
    have HDD := Lib.hid hd
    obtain ⟨g, cap, cur, rfl, k1, k2, k3, k4, k5⟩ := ownsRow_at hd.row hn
    have cd := cell_blk hd.hd
    unfold maxLen at k2
    generalize hE : D.spent = E at *
    have HE := Lib.hid hE
    clear hF hcan hd hl k3 k4 k5 hE
    go_wp2_with fail
    go_loopw [10] (fun i w' => ∃ k : Nat, k ≤ E.l.length ∧ i = .int .i64 (k : Int) ∧ DiskAt w' d (.slice (some ⟨g, 0, none⟩) E.l.length cap) (E.syncTo k) ∧ Fr (DiskF d (.slice (some ⟨g, 0, none⟩) E.l.length cap)) w w') (fun i _ => E.l.length - (intOf i).toNat)
    case atStart => exact ⟨0, Nat.zero_le _, rfl, by rw [DS.syncTo_zero]; exact HDD.out, HF.out.mono (fun x _ e => .inl e)⟩
    case round =>
      obtain ⟨k, hk, rfl, hg, hF⟩ := hrel
      have hc := cell_blk hg.hd
      have HG := Lib.hid hg
      have HF2 := Lib.hid hF
      clear hF cd
      rcases Nat.lt_or_ge k E.l.length with hlt | hge
      · have hat := mapTo_at sy E.l k hlt
        have hkk : k < (E.syncTo k).l.length := by rw [DS.syncTo_len]; exact hlt
        have hrow := hg.row
        rw [DS.syncTo_len] at hrow
        have hcg := hrow.cellAt (k * 2 + 1) (by omega)
        rw [secs_now _ k hkk] at hcg
        have hcs := hrow.cellAt (k * 2) (by omega)
        rw [secs_sure _ k hkk] at hcs
        have hfg : ∀ i, wr.frozen? ⟨g, i, none⟩ = false := by
          obtain ⟨g', cap', cur', e, _, _, k3, _, _⟩ := ownsRow_at hg.row (by omega)
          injection e with e _ _
          injection e with e
          injection e with e _ _
          subst e
          exact frozen_blk k3
        clear hg hat hrow
        go_wp2_with fail
        refine wp_region_mix 15 (fun w' => (∀ i, w'.cell? ⟨d, i, none⟩ = #[.slice (some ⟨g, 0, none⟩) E.l.length cap, .bool (E.syncTo k).armed, .int .i64 (E.syncTo k).left, .bool (E.syncTo k).dead][i]?) ∧ w'.cell? ⟨g, k * 2 + 1, none⟩ = some (.string (E.syncTo k).l[k].2)) [true, true, true, true, true, true, true, true, true, true, true, true, true, true, true] (by kernel_rfl) (by kernel_rfl) ?_ (by intro c a d v w h; cases d <;> exact h) ?_
        · exact ⟨hc, hcg⟩
        simp only [List.take_succ_cons, List.take_zero, List.drop_succ_cons, List.drop_zero]
        repeat ((with_reducible refine wpMix_read ?_ (fun K hK => ?_)); (focus rfl); apply Exists.intro; refine ⟨fun w' hS => ?_, ?_⟩; (focus (try dsimp only at hS; go_simp; try rfl)); go_simp; refine hK _ ?_; clear hK K)
        refine wpMix_nil ?_
        go_wp2_with fail
        go_roundw
        case rel =>
          refine ⟨k + 1, hlt, by go_num, ?_, ?_⟩
          · have hs := HG.out.drew.sure k hkk
            have e : (⟨(E.syncTo k).l.modify k sy, (E.syncTo k).armed, (E.syncTo k).left, (E.syncTo k).dead⟩ : DS) = E.syncTo (k + 1) := by
              show DS.mk _ _ _ _ = DS.mk _ _ _ _
              rw [mapTo_succ sy E.l k hlt]; rfl
            rw [e] at hs
            exact hs
          · exact HF2.out.drew.setCell (p := ⟨g, k * 2, none⟩) (fun _ => .inr rfl) _
        case measure => simp [intOf]; omega
      · have hk2 := Lib.hid (show k = E.l.length by omega)
        go_wp2_with fail
        go_end0
        refine ⟨.inl ⟨rfl, HCN.out, ?_⟩, HF2.out⟩
        have := HG.out
        rw [hk2.out, DS.syncTo_all] at this
        rw [HE.out]
        exact this
  · exact ⟨rfl, .inr ⟨rfl, hcan, hd⟩, hF.mono (fun x _ e => .inl e)⟩
end
end Go.Proofs.YtajojhfialbfkaaGreatDoor
/- Layer 4: a new disk. -/
namespace Go.Proofs.YtajojhfialbfkaaGreatDoor
open Go.RowKit
set_option maxRecDepth 100000

theorem infoSector : (Tryz.prog.info? 112).map (fun i => (i.zero, i.size, i.bytes)) = some (some (.agg #[.string ByteArray.empty, .string ByteArray.empty]), 2, 32) := by kernel_rfl

/-- A sector of noughts. -/
def blank : ByteArray := bstr (zeros 64)

theorem disk_blank (w : World) :
    Calls Tryz.prog 45 #[] w fun e w' => e = .returned (.string blank) ∧ Below w.heap.size w w' := by
  go_enter Tryz.func45, Tryz.ntmps45
  go_wp2_with fail
  refine (repeat_zeros 64 (by decide) _).mono ?_
  rintro e w' ⟨rfl, h⟩
  go_wp2
  go_ret
  exact ⟨rfl, h⟩

/-- A disk of noughts. -/
def DS.fresh (n : Nat) : DS := ⟨List.replicate n (blank, blank), false, 0, false⟩

theorem secs_more (l : List (ByteArray × ByteArray)) (s : ByteArray × ByteArray) : secs (l ++ [s]) = secs l ++ [.string s.1, .string s.2] := by
  rw [secs_append]; rfl

theorem ownsRow_down {w : World} {B B' e size n : Nat} {v : Value} {xs : List Value} (h : w.ownsRow B e size v n xs) (hB : B' ≤ B) : w.ownsRow B' e size v n xs := by
  obtain ⟨hl, ⟨rfl, rfl⟩ | ⟨g, cap, cur, rfl, h0, h3, h1, h2, h4, h5⟩⟩ := h
  · exact ⟨hl, .inl ⟨rfl, rfl⟩⟩
  · exact ⟨hl, .inr ⟨g, cap, cur, rfl, by omega, h3, h1, h2, h4, h5⟩⟩

structure NewAt (w0 : World) (w : World) (k : Nat) : Prop where
  row : ∃ v, w.heap[w0.heap.size]? = some (.cells #[v, .bool false, .int .i64 0, .bool false] 110 (0, 0)) ∧ w.ownsRow w0.heap.size 112 2 v k (secs (List.replicate k (blank, blank)))
  bel : Below w0.heap.size w0 w

set_option maxHeartbeats 1000000 in
theorem disk_new (n : Int) (hn : (-9223372036854775808 : Int) ≤ n ∧ n ≤ 9223372036854775807) (w : World) :
    Calls Tryz.prog 12 #[.int .i64 n] w fun e w' =>
      e = .returned (.pointer (some ⟨w.heap.size, 0, none⟩)) ∧ ∃ sv, DiskAt w' w.heap.size sv (DS.fresh (min (max n 0) 4096).toNat) ∧ Below w.heap.size w w' ∧ (∀ k, sv.ownBlock = some k → w.heap.size ≤ k) := by
  obtain ⟨i0, hi, hz0, hz1, hz2⟩ := info_parts infoSector
  obtain ⟨N, hN⟩ : ∃ N : Nat, N = (min (max n 0) 4096).toNat := ⟨_, rfl⟩
  have hN2 : min (max n 0) 4096 = (N : Int) := by omega
  have hN3 : N ≤ 4096 := by omega
  rw [← hN]
  have HN := Lib.hid hN
  have HI := Lib.hid hi
  have HZ0 := Lib.hid hz0
  have HZ1 := Lib.hid hz1
  have HZ2 := Lib.hid hz2
  clear hN hi hz0 hz1 hz2 hn
  go_enter Tryz.func12, Tryz.ntmps12
  go_wp2_with fail
  clear hN2
  go_loopw [9] (fun i w' => ∃ k : Nat, k ≤ N ∧ i = .int .i64 (k : Int) ∧ NewAt w w' k) (fun i _ => N - (intOf i).toNat)
  case atStart =>
    refine ⟨0, Nat.zero_le _, rfl, ⟨_, blk_alloc_new _ _, by simp [secs], .inl ⟨rfl, rfl⟩⟩, (Below.refl _ w).alloc (Nat.le_refl _) _⟩
  case round =>
    obtain ⟨k, hk, rfl, hg⟩ := hrel
    rcases Nat.lt_or_ge k N with hlt | hge
    · obtain ⟨⟨v, hb, hrow⟩, hbel⟩ := hg
      have hc := cell_blk hb
      have hne : v.ownBlock ≠ some w.heap.size := ownsRow_ne hrow hb (by decide)
      have HB := Lib.hid hb
      have HR := Lib.hid hrow
      have HBe := Lib.hid hbel
      have HNe := Lib.hid hne
      clear hb hrow hbel hne
      go_wp2_with fail
      refine wp_region_mix 12 (fun w' => ∀ i, w'.cell? ⟨w.heap.size, i, none⟩ = #[v, .bool false, .int .i64 0, .bool false][i]?) [true, true, true, true, true, false, false, true, false, false, true, true] (by kernel_rfl) (by kernel_rfl) ?_ (by intro c a d v w h; cases d <;> exact h) ?_
      · intro i; exact hc i
      simp only [List.take_succ_cons, List.take_zero, List.drop_succ_cons, List.drop_zero]
      repeat ((with_reducible refine wpMix_read ?_ (fun K hK => ?_)); (focus rfl); apply Exists.intro; refine ⟨fun w' hS => ?_, ?_⟩; (focus (try dsimp only at hS; go_simp; try rfl)); go_simp; refine hK _ ?_; clear hK K)
      refine wpMix_act rfl (fun K hK => ?_)
      go_simp
      refine (disk_blank _).mono ?_
      rintro e w1 ⟨rfl, hb1⟩
      have hb1 : Below wr.heap.size wr w1 := (((Below.refl wr.heap.size wr).drew).trans hb1)
      have hl := lt_of_blk HB.out
      have hB1 : w1.heap[w.heap.size]? = some (.cells #[v, .bool false, .int .i64 0, .bool false] 110 (0, 0)) := blk_below HB.out hb1 hl
      refine hK _ _ (cell_blk hB1) ?_; clear hK K
      refine wpMix_act rfl (fun K hK => ?_)
      go_simp
      refine (disk_blank _).mono ?_
      rintro e w2 ⟨rfl, hb2⟩
      have hb12 := hb1.trans (hb2.mono hb1.size)
      have hB2 : w2.heap[w.heap.size]? = some (.cells #[v, .bool false, .int .i64 0, .bool false] 110 (0, 0)) := blk_below HB.out hb12 hl
      have hR2 := ownsRow_fr HR.out (Fr.of_below (F := fun _ => False) (hb12 : Below wr.heap.size wr w2)) (fun _ _ h => h)
      have HB2 := Lib.hid hB2
      have HR2 := Lib.hid hR2
      have HBe2 := Lib.hid (HBe.out.trans ((show Below wr.heap.size wr w2 from hb12).mono HBe.out.size))
      refine hK _ _ (cell_blk hB2) ?_; clear hK K hB1 hB2 hb1 hb2 hb12 hR2 hl HB HR HBe hc
      repeat ((with_reducible refine wpMix_read ?_ (fun K hK => ?_)); (focus rfl); apply Exists.intro; refine ⟨fun w' hS => ?_, ?_⟩; (focus (try dsimp only at hS; go_simp; try rfl)); go_simp; refine hK _ ?_; clear hK K)
      refine wpMix_act rfl (fun K hK => ?_)
      go_simp
      have hB3 := blk_alloc (o' := .cells #[.string blank, .string blank] 112) HB2.out
      refine hK _ _ (cell_blk hB3) ?_; clear hK K
      refine wpMix_act rfl (fun K hK => ?_)
      have hsz := HBe2.out.size
      have hz2 : i0.bytes = 32 := HZ2.out
      have hnew := blk_alloc_new w2 (.cells #[.string blank, .string blank] 112)
      refine wp_append_lies _ _ _ _ rfl w.heap.size 112 i0 _ 2 32 Tryz.underlying108 HI.out HZ0.out HZ1.out hz2 rfl (by decide) v _ _ (by rfl) (HR2.out.alloc _) ⟨w2.heap.size, 0, none⟩ 1 1 [.string blank, .string blank] (by rfl) (by rfl) (fun j u hj => ?_) (by simp [Value.oneCell']) (by decide) (by unfold maxLen; omega) (by omega) (by simp; omega) _ rfl (fun g cap w3 hown1 hgrow hat hlt => ?_)
      · rw [← hj]
        have e : (⟨w2.heap.size, 0, none⟩ : Addr).add j = ⟨w2.heap.size, j, none⟩ := by
          unfold Addr.add; split
          · subst_vars; rfl
          · simp
        rw [e, cell_blk hnew j]
        simp
      have hne : v.ownBlock ≠ some w.heap.size := HNe.out
      have hB4 := blk_grown hB3 hgrow hne
      have HB4 := Lib.hid hB4
      have HG := Lib.hid hgrow
      have HO := Lib.hid hown1
      refine hK _ _ (cell_blk hB4) ?_; clear hK K hgrow hown1 hB3 hnew hat hlt
      repeat ((with_reducible refine wpMix_read ?_ (fun K hK => ?_)); (focus rfl); apply Exists.intro; refine ⟨fun w' hS => ?_, ?_⟩; (focus (try dsimp only at hS; go_simp; try rfl)); go_simp; refine hK _ ?_; clear hK K)
      refine wpMix_nil ?_
      have hc4 := cell_blk hB4
      have hf4 := frozen_blk hB4
      clear hB4
      go_wp2_with fail
      go_roundw
      case rel =>
        refine ⟨k + 1, by assumption, by go_num, ⟨⟨_, blk_set HB4.out, ?_⟩, ?_⟩⟩
        · have hown := HO.out
          rw [show secs (List.replicate k (blank, blank)) ++ [Value.string blank, .string blank] = secs (List.replicate (k + 1) (blank, blank)) by rw [List.replicate_succ', secs_more]] at hown
          exact ownsRow_far hown (ownsRow_ne hown HB4.out (by decide)) _
        · have h1 := HBe2.out
          exact ((h1.alloc h1.size _).grown HG.out (by have := h1.size; simp; omega) (fun x hx => (HR2.out.lt x hx).1)).setCell (Nat.le_refl _) _
      case measure => simp [intOf]; omega
    · have hkN : k = N := by omega
      subst hkN
      have HG := Lib.hid hg
      clear hg
      obtain ⟨⟨v, hb, hrow⟩, hbel⟩ := HG.out
      have hc := cell_blk hb
      clear hb hrow hbel
      go_wp2_with fail
      go_ret
      obtain ⟨⟨v, hb, hrow⟩, hbel⟩ := HG.out
      refine ⟨rfl, v, ⟨hb, ?_⟩, hbel, fun q hq => (hrow.lt q hq).1⟩
      have : (DS.fresh k).l.length = k := by simp [DS.fresh]
      rw [this]
      exact ownsRow_down hrow (Nat.zero_le _)
end Go.Proofs.YtajojhfialbfkaaGreatDoor
