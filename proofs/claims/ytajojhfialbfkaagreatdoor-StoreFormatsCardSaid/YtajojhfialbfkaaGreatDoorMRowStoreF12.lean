/- Layer 16: Entries: all volumes, by rising numbers. -/
import Derived.Test.YtajojhfialbfkaaGreatDoorMRowStoreF11
namespace Go.Proofs.YtajojhfialbfkaaGreatDoor
open Go.RowKit
set_option maxRecDepth 100000

theorem infoEntry : (Tryz.prog.info? 50).map (fun i => (i.zero, i.size, i.bytes)) = some (some (ev zEN), 6, 40) := by kernel_rfl

theorem addr_add0 (b j : Nat) : (⟨b, 0, none⟩ : Addr).add j = ⟨b, j, none⟩ := by
  unfold Addr.add; split
  · subst_vars; rfl
  · simp
theorem cells_new (w : World) (l : List Value) (t : TypeId) : ∀ j u, l[j]? = some u → (w.alloc (.cells l.toArray t)).cell? ((⟨w.heap.size, 0, none⟩ : Addr).add j) = some u := by
  intro j u hj
  rw [addr_add0, cell_blk (blk_alloc_new w (.cells l.toArray t)) j]
  simpa using hj

/-- The cells of entries. -/
def ecells (l : List EN) : List Value := l.flatMap fun E => [.int .u32 (E.id : Int), .int .u32 (E.parent : Int), .bool E.only, .int .i64 (E.size : Int), .int .i64 (E.root : Int), .int .u32 (E.born : Int)]
theorem ecells_snoc (l : List EN) (E : EN) : ecells (l ++ [E]) = ecells l ++ [.int .u32 (E.id : Int), .int .u32 (E.parent : Int), .bool E.only, .int .i64 (E.size : Int), .int .i64 (E.root : Int), .int .u32 (E.born : Int)] := by
  simp [ecells]
theorem ecells_length (l : List EN) : (ecells l).length = l.length * 6 := by
  induction l with
  | nil => rfl
  | cons E l ih => simp only [ecells, List.flatMap_cons, List.length_append, List.length_cons, List.length_nil] at ih ⊢; omega

/-- Sorted numbers are those of the volumes. -/
theorem sorted_eq : ∀ (a b : List Nat), a.Pairwise (· < ·) → b.Pairwise (· < ·) → (∀ x, x ∈ a ↔ x ∈ b) → a = b
  | [], [], _, _, _ => rfl
  | [], y :: b, _, _, h => by have := (h y).2 (by simp); cases this
  | x :: a, [], _, _, h => by have := (h x).1 (by simp); cases this
  | x :: a, y :: b, ha, hb, h => by
    have ha' := List.pairwise_cons.1 ha
    have hb' := List.pairwise_cons.1 hb
    have hxy : x = y := by
      rcases List.mem_cons.1 ((h x).1 (by simp)) with e | e
      · exact e
      · rcases List.mem_cons.1 ((h y).2 (by simp)) with e2 | e2
        · exact e2.symm
        · have := ha'.1 y e2; have := hb'.1 x e; omega
    subst hxy
    refine congrArg (x :: ·) (sorted_eq a b ha'.2 hb'.2 (fun z => ?_))
    constructor
    · intro hz
      rcases List.mem_cons.1 ((h z).1 (by simp [hz])) with e | e
      · have := ha'.1 z hz; omega
      · exact e
    · intro hz
      rcases List.mem_cons.1 ((h z).2 (by simp [hz])) with e | e
      · have := hb'.1 z hz; omega
      · exact e

theorem VolsAre.keys {f : Nat → Option EN} {L : List EN} (h : VolsAre f L) {ss : List Nat} (ha : AllKeys f ss) (hs : ss.Pairwise (· < ·)) : ss = L.map (·.id) := by
  refine sorted_eq _ _ hs (by rw [List.pairwise_map]; exact h.1) (fun x => ?_)
  rw [ha.2 x, h.mem x]

theorem find_at : ∀ (L : List EN) (k : Nat) (hk : k < L.length), L.Pairwise (fun a b => a.id < b.id) → L.find? (fun e => e.id == L[k].id) = some L[k]
  | [], k, hk, _ => by simp at hk
  | E :: L, 0, _, _ => by simp
  | E :: L, k + 1, hk, hp => by
    have hp' := List.pairwise_cons.1 hp
    have hk' : k < L.length := by simpa using hk
    have hlt := hp'.1 L[k] (List.getElem_mem hk')
    rw [List.find?_cons]
    have : (E.id == (E :: L)[k + 1].id) = false := by simp; omega
    rw [this]
    simpa using find_at L k hk' hp'.2

def EntriesEnd (L : List EN) (w : World) (e : Ending) (W' : World) : Prop :=
  ∃ v, e = .returned v ∧ W'.ownsRow w.heap.size 50 6 v L.length (ecells L) ∧ Below w.heap.size w W'

set_option maxHeartbeats 2000000 in
theorem core_entries {w : World} {C : CB} {h bits next epoch : Nat} {vols : Nat → Option EN} (H : CoreIs w C h bits next epoch vols) (L : List EN) (hv : VolsAre vols L) (hL : L.length ≤ 1000) (hid : ∀ E ∈ L, ukOk E.id)
    (hsort : ∀ (W : World) (Bm : Nat), W.heap[Bm]? = some (.cells #[.map (some C.l)] 77 (0, 0)) → MapIs uk ev ukOk W C.l vols → Calls Tryz.prog 97 #[.func (.func 149) #[] #[ptr0 Bm]] W (SortedEnd vols W)) :
    Calls Tryz.prog 42 #[.pointer (some ⟨C.c, 0, none⟩)] w (EntriesEnd L w) := by
  obtain ⟨i0, hi, hz0, hz1, hz2⟩ := info_parts infoEntry
  have hcc := cell_blk H.hc
  have HC := Lib.hid H
  have HV := Lib.hid hv
  have HL := Lib.hid hL
  have HId := Lib.hid hid
  have HS := Lib.hid hsort
  have HI := Lib.hid (And.intro hi (And.intro hz0 (And.intro hz1 hz2)))
  clear H hv hL hid hsort hi hz0 hz1 hz2
  go_enter Tryz.func42, Tryz.ntmps42
  go_wp2_with fail
  refine (maps_keys C.l w).mono ?_
  rintro e w1 ⟨rfl, rfl⟩
  have hF1 : Fr (fun _ => False) w (w.alloc (.cells #[.map (some C.l)] 77)) := (Fr.refl _ w).alloc _
  have hb1 := blk_new (w := w) (o := .cells #[.map (some C.l)] 77) rfl
  have hs1 := HS.out _ _ hb1 (HC.out.vols.fr hF1 (fun h => h))
  generalize w.alloc (.cells #[.map (some C.l)] 77) = w1 at *
  have HS1 := Lib.hid hs1
  have HF1 := Lib.hid hF1
  clear hs1 hF1 hb1
  go_wp2_with fail
  refine HS1.out.mono ?_
  rintro e w2 ⟨vk, ss, rfl, hall, hsrt, hrow, hbel⟩
  have hss := HV.out.keys hall hsrt
  have hz1 := HF1.out.size
  subst hss
  rw [List.length_map] at hrow
  obtain ⟨kao, kcap, rfl, _, hkc⟩ := ownsRow_form hrow
  have hFw : Fr (fun _ => False) w w2 := HF1.out.trans (Fr.of_below hbel) (fun _ _ f => f)
  have hcc2 := cell_blk (hFw.blk HC.out.hc (fun f => f))
  have HR := Lib.hid (ownsRow_down hrow hz1)
  have HFw := Lib.hid hFw
  clear hall hsrt hrow hbel hz1 hFw hcc
  unfold maxLen at hkc
  have hLn : L.length ≤ 1000 := HL.out
  go_wp2_with fail
  go_loopw [3, 13] (fun out i wr => ∃ k : Nat, k ≤ L.length ∧ i = .int .i64 (k : Int) ∧ wr.ownsRow w.heap.size 50 6 out k (ecells (L.take k)) ∧ wr.ownsRow w.heap.size 47 1 (.slice kao L.length kcap) L.length ((L.map (·.id)).map uk) ∧ Fr (fun _ => False) w wr) (fun _ i _ => L.length - (intOf i).toNat)
  case atStart => exact ⟨0, Nat.zero_le _, rfl, ⟨rfl, .inl ⟨rfl, rfl⟩⟩, HR.out, HFw.out⟩
  case round =>
    obtain ⟨k, hk, rfl, hout, hids, hF⟩ := hrel
    have HO := Lib.hid hout
    have HIds := Lib.hid hids
    have HF := Lib.hid hF
    clear hout hids hF hcc2
    rcases Nat.lt_or_ge k L.length with hlt | hge
    · obtain ⟨g2, cap2, cur2, e2, _, _, _, _, _⟩ := ownsRow_at HIds.out (by omega)
      injection e2 with e2 e3 e4
      subst e2
      clear e3 e4
      have hcell := HIds.out.cellAt k (by rw [Nat.mul_one]; exact hlt)
      have hci : ((L.map (·.id)).map uk)[k]? = some (uk L[k].id) := by simp [hlt]
      rw [hci] at hcell
      have hcc := cell_blk (HF.out.blk HC.out.hc (fun f => f))
      have hmem := List.getElem_mem hlt
      have hf : vols L[k].id = some L[k] := by rw [HV.out.2]; exact find_at L k hlt HV.out.1
      have hlk := (HC.out.vols.fr HF.out (fun h => h)).look kkU32 (t := 77) (e := 50) Tryz.underlying77 (z := ev zEN) (by kernel_rfl) L[k].id (HId.out _ hmem) false
      rw [hf] at hlk
      have hsn : ecells (L.take (k + 1)) = ecells (L.take k) ++ [.int .u32 (L[k].id : Int), .int .u32 (L[k].parent : Int), .bool L[k].only, .int .i64 (L[k].size : Int), .int .i64 (L[k].root : Int), .int .u32 (L[k].born : Int)] := by
        rw [List.take_succ_eq_append_getElem hlt, ecells_snoc]
      have HSn := Lib.hid hsn
      clear hci hmem hf hsn
      generalize L[k] = E at *
      replace hlk : (Instr.lookup 77 (.map (some C.l)) (.int .u32 (E.id : Int)) false).run Tryz.prog wr = .ok (.agg #[.int .u32 (E.id : Int), .int .u32 (E.parent : Int), .bool E.only, .int .i64 (E.size : Int), .int .i64 (E.root : Int), .int .u32 (E.born : Int)]) wr := hlk
      have HNew := Lib.hid (cells_new wr [.int .u32 (E.id : Int), .int .u32 (E.parent : Int), .bool E.only, .int .i64 (E.size : Int), .int .i64 (E.root : Int), .int .u32 (E.born : Int)] 50)
      go_wp2_with (at_builtin; refine wpList_append_own _ rfl _ _ 106 rfl w.heap.size 50 i0 (ev zEN) 6 40 Tryz.underlying106 HI.out.1 HI.out.2.1 HI.out.2.2.1 HI.out.2.2.2 rfl (by decide) _ _ _ (by rfl) (HO.out.alloc _) ⟨wr.heap.size, 0, none⟩ 1 1 [.int .u32 (E.id : Int), .int .u32 (E.parent : Int), .bool E.only, .int .i64 (E.size : Int), .int .i64 (E.root : Int), .int .u32 (E.born : Int)] (by rfl) (by rfl) HNew.out (by simp [Value.oneCell']) (by unfold maxLen; omega) (by omega) (by have := HF.out.size; simp; omega) ?_)
      intro v' w3 hown hgrow hnil
      have hids := HIds.out
      obtain ⟨g3, cap3, cur3, e5, _, _, hb3, _, _⟩ := ownsRow_at hids (by omega)
      have hg3 : (Value.slice (some ⟨g2, 0, none⟩) L.length kcap).ownBlock = some g3 := by rw [e5]; rfl
      have hF3 := ((HF.out.mono (G := fun _ => False) (fun _ _ f => f)).alloc (.cells #[.int .u32 (E.id : Int), .int .u32 (E.parent : Int), .bool E.only, .int .i64 (E.size : Int), .int .i64 (E.root : Int), .int .u32 (E.born : Int)] 50)).grown hgrow (fun q hq hlq => by have := (HO.out.lt q hq).1; omega)
      have hids3 := ownsRow_fr hids (((Fr.refl (fun _ => False) wr).alloc (.cells #[.int .u32 (E.id : Int), .int .u32 (E.parent : Int), .bool E.only, .int .i64 (E.size : Int), .int .i64 (E.root : Int), .int .u32 (E.born : Int)] 50)).mono (G := fun q => q ≠ g3) (fun _ _ f => f.elim) |>.grown hgrow (fun q hq _ e => ownsRow_ne HO.out (e ▸ hb3) (by decide) hq)) (fun q hq => by rw [hg3] at hq; injection hq with hq; subst hq; exact fun h => h rfl)
      have R := Lib.hid (And.intro hown (And.intro hids3 hF3))
      clear hown hgrow hnil hids hb3 hg3 hF3 hids3 e5 hcell hcc hlk
      go_wp2_with fail
      go_roundw
      case rel => exact ⟨k + 1, hlt, by go_num, by rw [HSn.out]; exact R.out.1, R.out.2.1, R.out.2.2⟩
      case measure => simp [intOf]; omega
    · have hkL : k = L.length := by omega
      subst hkL
      have HE := Lib.hid (show ecells (L.take L.length) = ecells L by rw [List.take_length])
      go_wp2_with fail
      go_ret
      exact ⟨_, rfl, by have := HO.out; rw [HE.out] at this; exact this, HF.out.below (fun _ _ f => f.elim) (Nat.le_refl _)⟩
end Go.Proofs.YtajojhfialbfkaaGreatDoor
/- Layer 15: Save: entries, one behind the other. -/
namespace Go.Proofs.YtajojhfialbfkaaGreatDoor
open Go.RowKit
set_option maxRecDepth 100000

/-- What Save leaves: the heap, where the first entry lies. -/
def saved (S : HS) : List EN → HS × Nat
  | [] => (S, 0)
  | E :: L => ((saved S L).1.put (bstr (E.bytes (saved S L).2)), (saved S L).1.G.first)

theorem GS.put_len (G : GS) (a t : Nat) : (G.put a t).l.length = G.l.length := by simp [GS.put]
theorem GS.first_put_count {G : GS} (h : 0 < G.l.count 0) : (G.put G.first 1).l.count 0 = G.l.count 0 - 1 := by
  have hmem : 0 ∈ G.l := List.count_pos_iff.1 h
  have hi : G.l.idxOf 0 < G.l.length := List.idxOf_lt_length_iff.2 hmem
  have hg : G.l[G.l.idxOf 0] = 0 := by
    have := List.getElem_idxOf hi
    exact this
  show (G.l.set (G.first - G.from_) 1).count 0 = _
  rw [show G.first - G.from_ = G.l.idxOf 0 by unfold GS.first; omega, List.count_set hi, hg]
  simp

theorem HS.put_ok {S : HS} (ok : S.ok) (s : ByteArray) : (S.put s).ok := by
  refine ⟨GS.put_ok ok.gok _ _ (by decide), ?_, ?_⟩
  · show S.G.from_ + (S.G.put S.G.first 1).l.length ≤ (S.D.wrote _ _).l.length
    rw [GS.put_len, DS.wrote_len]; exact ok.end_
  · show (S.D.wrote _ _).l.length ≤ 4096
    rw [DS.wrote_len]; exact ok.dl
theorem first_le {S : HS} (ok : S.ok) : S.G.first ≤ 8192 := by
  have h1 := ok.gok.len
  have h2 := ok.gok.from_
  have h3 := List.idxOf_le_length (a := 0) (l := S.G.l)
  unfold GS.first
  omega

theorem saved_ok {S : HS} (ok : S.ok) (hc : S.D.calm) : ∀ L : List EN, L.length ≤ S.G.l.count 0 → (saved S L).1.ok ∧ (saved S L).1.D.calm ∧ (saved S L).1.keep = S.keep ∧ (saved S L).1.gone = S.gone ∧ (saved S L).2 ≤ 8192 ∧ (saved S L).1.G.l.count 0 = S.G.l.count 0 - L.length
  | [], _ => ⟨ok, hc, rfl, rfl, by simp [saved], by simp [saved]⟩
  | E :: L, h => by
    simp only [List.length_cons] at h
    obtain ⟨h1, h2, h3, h4, h5, h6⟩ := saved_ok ok hc L (by omega)
    refine ⟨HS.put_ok h1 _, DS.calm_wrote h2 _ _, h3, h4, first_le h1, ?_⟩
    show ((saved S L).1.G.put _ 1).l.count 0 = _
    rw [GS.first_put_count (by omega), h6, List.length_cons]
    omega

section
variable {w w' : World} {B : HB} {C : CB} {S : HS} {K : KS} {yg : Nat} {gv lv : Value} {depth : Nat} {cs : List CStep}

/-- Put, of a core's heap. -/
theorem core_heap_put (h : CW w B C S K yg gv lv depth cs) (hd : 0 < depth) (hl : cs.length ≤ 80000) (ok : S.ok) (hc : S.D.calm) (hroom : S.keep < S.G.l.count 0) (hk : S.keep ≤ 100000) (s : ByteArray) (hs : s.size ≤ 64) :
    Calls Tryz.prog 194 #[.pointer (some ⟨B.h, 0, none⟩), .string s] w fun e w' =>
      e = .returned (.int .i64 (S.G.first : Int)) ∧ (∃ lv' new, CW w' B C (S.put s) K yg gv lv' depth (cs ++ new) ∧ new.length = 3 ∧ (∀ k, lv'.ownBlock = some k → lv.ownBlock = some k ∨ w.heap.size ≤ k)) ∧ Fr (HF B yg lv) w w' := by
  refine (heap_put h.hw hd (by simp; omega) ok hc hroom hk s hs).mono ?_
  rintro e w' ⟨rfl, ⟨lv', new, hW, hn, hlv⟩, hF⟩
  refine ⟨rfl, ⟨lv', new.map .low, h.of_heap hF ?_, by simp [hn], hlv⟩, hF⟩
  rw [List.map_append, List.map_map]
  have : CStep.step C ∘ CStep.low = id := rfl
  rw [this, List.map_id]
  exact hW

theorem ecells_at (L : List EN) (k : Nat) (hk : k < L.length) : (ecells L)[k * 6]? = some (.int .u32 (L[k].id : Int)) ∧ (ecells L)[k * 6 + 1]? = some (.int .u32 (L[k].parent : Int)) ∧ (ecells L)[k * 6 + 2]? = some (.bool L[k].only) ∧
    (ecells L)[k * 6 + 3]? = some (.int .i64 (L[k].size : Int)) ∧ (ecells L)[k * 6 + 4]? = some (.int .i64 (L[k].root : Int)) ∧ (ecells L)[k * 6 + 5]? = some (.int .u32 (L[k].born : Int)) := by
  induction L generalizing k with
  | nil => simp at hk
  | cons E L ih =>
    cases k with
    | zero => simp [ecells]
    | succ k =>
      have := ih k (by simpa using hk)
      simp only [ecells, List.flatMap_cons, Nat.succ_mul] at this ⊢
      refine ⟨?_, ?_, ?_, ?_, ?_, ?_⟩
      · rw [show k * 6 + 6 = k * 6 + 1 + 1 + 1 + 1 + 1 + 1 by omega]; simpa using this.1
      · rw [show k * 6 + 6 + 1 = k * 6 + 1 + 1 + 1 + 1 + 1 + 1 + 1 by omega]; simpa using this.2.1
      · rw [show k * 6 + 6 + 2 = k * 6 + 2 + 1 + 1 + 1 + 1 + 1 + 1 by omega]; simpa using this.2.2.1
      · rw [show k * 6 + 6 + 3 = k * 6 + 3 + 1 + 1 + 1 + 1 + 1 + 1 by omega]; simpa using this.2.2.2.1
      · rw [show k * 6 + 6 + 4 = k * 6 + 4 + 1 + 1 + 1 + 1 + 1 + 1 by omega]; simpa using this.2.2.2.2.1
      · rw [show k * 6 + 6 + 5 = k * 6 + 5 + 1 + 1 + 1 + 1 + 1 + 1 by omega]; simpa using this.2.2.2.2.2

set_option maxHeartbeats 2000000 in
theorem catalog_save (h : CW w B C S K yg gv lv depth cs) (hd : 0 < depth) (hl : cs.length ≤ 70000) (ok : S.ok) (hc : S.D.calm) (L : List EN) (hL : L.length ≤ 1000) (hE : ∀ E ∈ L, E.small) (hroom : S.keep + L.length ≤ S.G.l.count 0) (hk : S.keep ≤ 100000)
    (base : Nat) (v : Value) (hrow : w.ownsRow base 50 6 v L.length (ecells L)) (hbase : ∀ k, base ≤ k → ¬ HF B yg lv k) :
    Calls Tryz.prog 152 #[.pointer (some ⟨B.h, 0, none⟩), v] w fun e w' =>
      e = .returned (.int .i64 ((saved S L).2 : Int)) ∧ (∃ lv' new, CW w' B C (saved S L).1 K yg gv lv' depth (cs ++ new) ∧ (∀ k, lv'.ownBlock = some k → lv.ownBlock = some k ∨ w.heap.size ≤ k)) ∧ Fr (HF B yg lv) w w' := by
  obtain ⟨ao, cap, rfl, _, hcap⟩ := ownsRow_form hrow
  unfold maxLen at hcap
  have hw1 : IntKind.i64.wrap ((L.length : Int) - 1) = (L.length : Int) - 1 := IntWalk.i64_in _ (by omega)
  have H := Lib.hid h
  have HD := Lib.hid hd
  have HL := Lib.hid hl
  have HO := Lib.hid ok
  have HC := Lib.hid hc
  have HE := Lib.hid hE
  have HRoom := Lib.hid hroom
  have HK := Lib.hid hk
  have HR := Lib.hid hrow
  have HBase := Lib.hid hbase
  clear h hd hl ok hc hE hroom hk hrow hbase
  go_enter Tryz.func152, Tryz.ntmps152
  go_wp2_with fail
  go_loopw [5, 6] (fun nx i wr => ∃ k : Nat, k ≤ L.length ∧ i = .int .i64 ((k : Int) - 1) ∧ nx = .int .i64 ((saved S (L.drop k)).2 : Int) ∧
      (∃ lv' new, CW wr B C (saved S (L.drop k)).1 K yg gv lv' depth (cs ++ new) ∧ new.length + 3 * k = 3 * L.length ∧ (∀ q, lv'.ownBlock = some q → lv.ownBlock = some q ∨ w.heap.size ≤ q)) ∧ Fr (HF B yg lv) w wr) (fun _ i _ => (intOf i + 1).toNat)
  case atStart =>
    refine ⟨L.length, Nat.le_refl _, rfl, ?_, ⟨lv, [], ?_, by simp, fun q hq => .inl hq⟩, Fr.refl _ _⟩
    · rw [List.drop_length]; rfl
    · rw [List.drop_length, List.append_nil]; exact H.out
  case round =>
    obtain ⟨k, hk, rfl, rfl, ⟨lv1, new, hW, hnl, hlv⟩, hF⟩ := hrel
    have HW := Lib.hid hW
    have HN := Lib.hid hnl
    have HV := Lib.hid hlv
    have HF := Lib.hid hF
    clear hW hnl hlv hF
    rcases Nat.eq_zero_or_pos k with rfl | hpos
    · rw [List.drop_zero]
      go_wp2_with fail
      go_ret
      exact ⟨rfl, ⟨lv1, new, HW.out, HV.out⟩, HF.out⟩
    · obtain ⟨m, rfl⟩ : ∃ m, k = m + 1 := ⟨k - 1, by omega⟩
      have hm : m < L.length := by omega
      have hrow := ownsRow_fr HR.out HF.out (fun q hq f => HBase.out q (HR.out.lt q hq).1 f)
      obtain ⟨g2, cap2, cur2, e2, _, _, _, _, _⟩ := ownsRow_at hrow (by omega)
      injection e2 with e2 e3 e4
      subst e2
      clear e3 e4
      obtain ⟨q0, q1, q2, q3, q4, q5⟩ := ecells_at L m hm
      have c0 := hrow.cellAt (m * 6) (by omega)
      have c1 := hrow.cellAt (m * 6 + 1) (by omega)
      have c2 := hrow.cellAt (m * 6 + 2) (by omega)
      have c3 := hrow.cellAt (m * 6 + 3) (by omega)
      have c4 := hrow.cellAt (m * 6 + 4) (by omega)
      have c5 := hrow.cellAt (m * 6 + 5) (by omega)
      rw [q0] at c0
      rw [q1] at c1
      rw [q2] at c2
      rw [q3] at c3
      rw [q4] at c4
      rw [q5] at c5
      clear q0 q1 q2 q3 q4 q5
      have hdr : L.drop m = L[m] :: L.drop (m + 1) := List.drop_eq_getElem_cons hm
      have hEm := HE.out _ (List.getElem_mem hm)
      have hsv := saved_ok HO.out HC.out (L.drop (m + 1)) (by have := HRoom.out; simp; omega)
      have hln : (L.drop (m + 1)).length + (m + 1) = L.length := by simp; omega
      have hkm : (((m + 1 : Nat) : Int) - 1) = (m : Int) := by omega
      rw [hkm]
      generalize L[m] = E at *
      have hsd : saved S (L.drop m) = ((saved S (L.drop (m + 1))).1.put (bstr (E.bytes (saved S (L.drop (m + 1))).2)), (saved S (L.drop (m + 1))).1.G.first) := by rw [hdr]; rfl
      have HSd := Lib.hid hsd
      clear hdr hsd hkm
      generalize saved S (L.drop (m + 1)) = Sn at *
      generalize L.drop (m + 1) = T at *
      obtain ⟨S1, nx⟩ := Sn
      obtain ⟨s1, s2, s3, s4, s5, s6⟩ := hsv
      simp only at s1 s2 s3 s4 s5 s6 HW HSd ⊢
      have hby := fun W => entry_bytes E hEm nx (by omega) W
      simp only [ev] at hby
      have HBy := Lib.hid hby
      have HS1 := Lib.hid (And.intro s1 (And.intro s2 (And.intro s3 s6)))
      have HLn := Lib.hid hln
      have hm2 : (m : Int) ≤ 1000 := by omega
      clear hby hEm s1 s2 s3 s4 s6 hrow hln
      go_wp2_with fail
      refine (HBy.out _).mono ?_
      rintro e w2 ⟨rfl, hb2⟩
      have hF2 : Fr (fun _ => False) wr w2 := Fr.of_below hb2
      have h2 := HW.out.fr_new hF2
      have hput := core_heap_put h2 HD.out (by have := HL.out; have := HN.out; simp; omega) HS1.out.1 HS1.out.2.1 (by have := HRoom.out; have := HLn.out; rw [HS1.out.2.2.1, HS1.out.2.2.2]; omega) (by have := HK.out; rw [HS1.out.2.2.1]; omega) (bstr (E.bytes nx)) (by rw [size_bstr, EN.bytes_length]; exact Nat.le_refl _)
      have HPut := Lib.hid hput
      have HF2 := Lib.hid hF2
      clear hput h2 hb2 hF2 c0 c1 c2 c3 c4 c5
      go_wp2_with fail
      refine HPut.out.mono ?_
      rintro e w3 ⟨rfl, ⟨lv3, new3, hW3, hn3, hlv3⟩, hF3⟩
      have hz := HF.out.size
      have hz2 := HF2.out.size
      have HW3 := Lib.hid hW3
      have HN3 := Lib.hid hn3
      have HV3 := Lib.hid (lv_trans (w := w) (w2 := w2) (lv := lv) (by omega) HV.out hlv3)
      have HF3 := Lib.hid ((HF.out.trans HF2.out (fun _ _ f => f.elim)).trans hF3 (HF_back HV.out))
      clear hW3 hn3 hlv3 hF3 hz hz2
      go_wp2_with fail
      go_roundw
      case rel => exact ⟨m, by omega, by go_num, by rw [HSd.out], ⟨lv3, new ++ new3, by rw [HSd.out, ← List.append_assoc]; exact HW3.out, by have := HN.out; have := HN3.out; simp; omega, HV3.out⟩, HF3.out⟩
      case measure => simp [intOf]
end
end Go.Proofs.YtajojhfialbfkaaGreatDoor
/- Layer 18: save, where the last catalog had no entries. -/
namespace Go.Proofs.YtajojhfialbfkaaGreatDoor
open Go.RowKit
set_option maxRecDepth 100000

section
variable {w w' : World} {B : HB} {C : CB} {S : HS} {K : KS} {yg : Nat} {gv lv : Value} {depth : Nat} {cs : List CStep}

/-- slices.Sorted serves the volumes of a core. -/
def SortsIt (C : CB) (vols : Nat → Option EN) : Prop :=
  ∀ (W : World) (Bm : Nat), W.heap[Bm]? = some (.cells #[.map (some C.l)] 77 (0, 0)) → MapIs uk ev ukOk W C.l vols → Calls Tryz.prog 97 #[.func (.func 149) #[] #[ptr0 Bm]] W (SortedEnd vols W)

theorem sorts_one {C : CB} {vols : Nat → Option EN} {L : List EN} (hv : VolsAre vols L) (hL : L.length ≤ 1) : SortsIt C vols :=
  fun W Bm hb hm => sorted_one Bm C.l vols (L.map (·.id)) (fun a => hv.mem a) (by simpa using hL) W hb hm

/-- The heap behind save. -/
def HS.saves (S : HS) (L : List EN) : HS := (saved { S with keep := 0 } L).1
def HS.headOf (S : HS) (L : List EN) : Nat := (saved { S with keep := 0 } L).2

set_option maxHeartbeats 4000000 in
theorem store_save_in (h : CW w B C S K yg gv lv 1 cs) (hl : cs.length ≤ 60000) (ok : S.ok) (hc : S.D.calm) (L : List EN) (hv : VolsAre K.vols L) (hL : L.length ≤ 1000) (hE : ∀ E ∈ L, E.small) (hroom : L.length ≤ S.G.l.count 0) (hsort : SortsIt C K.vols)
    (t a hb d : Nat) (s : SU) (hs : s.head = 0) (ht : w.heap[t]? = some (storeObj C.c d s)) (ha : w.heap[a]? = some (.cells #[ptr t] 63 (0, 0))) (hh : w.heap[hb]? = some (.cells #[.int .i64 0] 3 (0, 0)))
    (hnh : ¬ HF B yg lv hb) (hgh : gv.ownBlock ≠ some hb) :
    Calls Tryz.prog 151 #[ptr a, ptr hb] w fun e w' => e = unit0 ∧
      ∃ lv' cs', CW w' B C (S.saves L) K yg gv lv' 1 cs' ∧ w'.heap[hb]? = some (.cells #[.int .i64 (S.headOf L : Int)] 3 (0, 0)) ∧ (∀ k, lv'.ownBlock = some k → lv.ownBlock = some k ∨ w.heap.size ≤ k) ∧ Fr (fun k => HF B yg lv k ∨ k = hb) w w' := by
  have ht : w.heap[t]? = some (.cells #[.pointer (some ⟨C.c, 0, none⟩), .pointer (some ⟨d, 0, none⟩), .int .u32 (s.epoch : Int), .int .i64 s.journal, .int .i64 s.bits, .int .i64 0, .int .u32 (s.next : Int)] 71 (0, 0)) := by rw [ht, storeObj, hs]; rfl
  have hnt : ¬ HF B yg lv t := h.hw.not_alien (.inl ⟨_, _, ht, by decide⟩)
  have hna : ¬ HF B yg lv a := h.hw.not_alien (.inl ⟨_, _, ha, by decide⟩)
  have hca := cell_blk ha
  have hct := cell_blk ht
  have hcc := cell_blk h.co.hc
  have hkp := core_keep h (by decide) (by omega) 0 (by decide)
  have H := Lib.hid h
  have HL := Lib.hid hl
  have HO := Lib.hid ok
  have HC := Lib.hid hc
  have HV := Lib.hid hv
  have HLn := Lib.hid hL
  have HE := Lib.hid hE
  have HR := Lib.hid hroom
  have HSo := Lib.hid hsort
  have HT := Lib.hid (And.intro ht hnt)
  have HA := Lib.hid (And.intro ha hna)
  have HH := Lib.hid (And.intro hh (And.intro hnh hgh))
  have HKp := Lib.hid hkp
  have hid : ∀ E ∈ L, ukOk E.id := fun E he => (hE E he).id
  have HId := Lib.hid hid
  clear h hl ok hc hv hL hE hroom hsort ht hnt ha hna hh hnh hgh hkp hs hid
  go_enter Tryz.func151, Tryz.ntmps151
  go_wp2_with fail
  refine HKp.out.mono ?_
  rintro e w1 ⟨rfl, ⟨lv1, x, y, h1, hlv1⟩, hF1⟩
  have ha1 := hF1.blk HA.out.1 HA.out.2
  have ht1 := hF1.blk HT.out.1 HT.out.2
  have hca1 := cell_blk ha1
  have hct1 := cell_blk ht1
  have hcc1 := cell_blk h1.co.hc
  have H1 := Lib.hid h1
  have HF1 := Lib.hid hF1
  have HV1 := Lib.hid hlv1
  have HA1 := Lib.hid ha1
  have HT1 := Lib.hid ht1
  clear h1 hF1 hlv1 ha1 ht1 hca hct hcc
  go_wp2_with fail
  refine wp_region_perm 13 (fun w' => (∀ i, w'.cell? ⟨a, i, none⟩ = #[ptr t][i]?) ∧ (∀ i, w'.cell? ⟨t, i, none⟩ = #[.pointer (some ⟨C.c, 0, none⟩), .pointer (some ⟨d, 0, none⟩), .int .u32 (s.epoch : Int), .int .i64 s.journal, .int .i64 s.bits, .int .i64 0, .int .u32 (s.next : Int)][i]?) ∧ (∀ i, w'.cell? ⟨C.c, i, none⟩ = #[.pointer (some ⟨B.h, 0, none⟩), .pointer (some ⟨C.r, 0, none⟩), .map (some C.l), .int .u32 (K.next : Int), .int .u32 (K.epoch : Int)][i]?)) [(0, true), (1, true), (2, true), (3, true), (4, true), (5, true), (6, true), (7, true), (8, true), (9, true), (10, true), (11, false), (12, false)] (by kernel_rfl) (by kernel_rfl) ?_ (by intro c a d v w h; cases d <;> exact h) ?_
  · exact ⟨hca1, hct1, hcc1⟩
  simp only [pickOps, List.getElem?_cons_succ, List.getElem?_cons_zero, List.map_cons, List.map_nil, List.drop_succ_cons, List.drop_zero]
  repeat ((with_reducible refine wpMix_read ?_ (fun K hK => ?_)); (focus rfl); apply Exists.intro; refine ⟨fun w' hS => ?_, ?_⟩; (focus (try dsimp only at hS; go_simp; try rfl)); go_simp; refine hK _ ?_; clear hK K)
  refine wpMix_act rfl (fun Kk hK => ?_)
  go_simp
  have h1d := H1.out.fr_new ((Fr.refl (fun _ => False) w1).drew)
  refine (core_entries h1d.co L HV.out HLn.out HId.out HSo.out).mono ?_
  rintro e w2 ⟨v, rfl, hrow, hb2⟩
  have hF2 : Fr (fun _ => False) w1 w2 := ((Fr.refl (fun _ => False) w1).drew).trans (Fr.of_below hb2) (fun _ _ f => f)
  have h2 := H1.out.fr_new hF2
  refine hK _ _ ⟨cell_blk (hF2.blk HA1.out (fun f => f)), cell_blk (hF2.blk HT1.out (fun f => f)), cell_blk h2.co.hc⟩ ?_; clear hK Kk
  repeat ((with_reducible refine wpMix_read ?_ (fun K hK => ?_)); (focus rfl); apply Exists.intro; refine ⟨fun w' hS => ?_, ?_⟩; (focus (try dsimp only at hS; go_simp; try rfl)); go_simp; refine hK _ ?_; clear hK K)
  refine wpMix_act rfl (fun Kk hK => ?_)
  go_simp
  have hnHF : ∀ {q : Nat}, q < w.heap.size → ¬ HF B yg lv q → ¬ HF B yg lv1 q := by
    rintro q hq hn (f | f)
    · exact hn (.inl f)
    · rcases HV1.out q f with f | f
      · exact hn (.inr f)
      · omega
  have ok0 : ({ S with keep := 0 } : HS).ok := ⟨HO.out.gok, HO.out.end_, HO.out.dl⟩
  refine (catalog_save h2 (by decide) (by have := HL.out; simp; omega) ok0 HC.out L HLn.out HE.out (by simpa using HR.out) (Nat.zero_le _) w1.heap.size v hrow (fun q hq f => by have hq : w1.heap.size ≤ q := hq; have := H1.out.hw.lt q f; omega)).mono ?_
  rintro e w3 ⟨rfl, ⟨lv3, new, h3, hlv3⟩, hF3⟩
  have hF13 : Fr (HF B yg lv1) w1 w3 := (hF2.mono (fun _ _ f => f.elim)).trans hF3 (fun _ _ f => f)
  have hta : ¬ HF B yg lv1 t := hnHF (lt_of_blk HT.out.1) HT.out.2
  have haa : ¬ HF B yg lv1 a := hnHF (lt_of_blk HA.out.1) HA.out.2
  have hha : ¬ HF B yg lv1 hb := hnHF (lt_of_blk HH.out.1) HH.out.2.1
  have ha3 := hF13.blk HA1.out haa
  have ht3 := hF13.blk HT1.out hta
  have hh3 := hF13.blk (HF1.out.blk HH.out.1 HH.out.2.1) hha
  have hz1 := HF1.out.size
  have hz13 := hF13.size
  refine hK _ _ ⟨cell_blk ha3, cell_blk ht3, cell_blk h3.co.hc⟩ ?_; clear hK Kk
  refine wpMix_nil ?_
  have hch := cell_blk hh3
  have hfh := frozen_blk hh3
  have hlv3' : ∀ k, lv3.ownBlock = some k → lv1.ownBlock = some k ∨ w1.heap.size ≤ k := fun k hk => (hlv3 k hk).imp_right (fun f => by have := hF2.size; omega)
  have hlvw := lv_trans (w := w) (w2 := w1) (lv := lv) hz1 HV1.out hlv3'
  have hh3n : ¬ HF B yg lv3 hb := by
    rintro (f | f)
    · exact HH.out.2.1 (.inl f)
    · rcases hlvw _ f with f | f
      · exact HH.out.2.1 (.inr f)
      · have := lt_of_blk HH.out.1; omega
  have hF4 : Fr (fun k => k = hb) w3 (w3.setCell ⟨hb, 0, none⟩ (.int .i64 (S.headOf L : Int))) := (Fr.refl (fun k => k = hb) w3).setCell (p := ⟨hb, 0, none⟩) (fun _ => rfl) _
  have h4 := h3.far hF4 hh3n HH.out.2.2 (h3.not_own hh3 (by decide))
  have hb4 := blk_set (i := 0) (v := .int .i64 (S.headOf L : Int)) hh3
  simp only [List.setIfInBounds_toArray, List.set_cons_zero] at hb4
  have ha4 := hF4.blk ha3 (ne_blk ha3 hh3 (by decide))
  have ht4 := hF4.blk ht3 (ne_blk ht3 hh3 (by decide))
  have hFw : Fr (fun k => HF B yg lv k ∨ k = hb) w (w3.setCell ⟨hb, 0, none⟩ (.int .i64 (S.headOf L : Int))) := ((HF1.out.mono (fun k _ f => .inl f)).trans hF13 (fun k hk f => .inl (HF_back HV1.out k hk f))).trans hF4 (fun k _ f => .inr f)
  have R := Lib.hid (And.intro h4 (And.intro hb4 (And.intro ha4 (And.intro ht4 (And.intro hFw hlvw)))))
  have hca4 := cell_blk ha4
  have hct4 := cell_blk ht4
  have hcc4 := cell_blk h4.co.hc
  clear h1d hrow hb2 hF2 h2 h3 hlv3 hF3 hF13 hta haa hha ha3 ht3 hh3 hz1 hz13 hlv3' hlvw hh3n hF4 h4 hb4 ha4 ht4 hFw ok0 hnHF hca1 hct1 hcc1
  rw [show (saved { S with keep := 0 } L).2 = S.headOf L from rfl]
  go_wp2_with fail
  generalize w3.setCell ⟨hb, 0, none⟩ (.int .i64 (S.headOf L : Int)) = w4 at *
  clear hch hfh
  refine wp_region_perm 12 (fun w' => (∀ i, w'.cell? ⟨a, i, none⟩ = #[ptr t][i]?) ∧ (∀ i, w'.cell? ⟨t, i, none⟩ = #[.pointer (some ⟨C.c, 0, none⟩), .pointer (some ⟨d, 0, none⟩), .int .u32 (s.epoch : Int), .int .i64 s.journal, .int .i64 s.bits, .int .i64 0, .int .u32 (s.next : Int)][i]?) ∧ (∀ i, w'.cell? ⟨C.c, i, none⟩ = #[.pointer (some ⟨B.h, 0, none⟩), .pointer (some ⟨C.r, 0, none⟩), .map (some C.l), .int .u32 (K.next : Int), .int .u32 (K.epoch : Int)][i]?)) [(0, true), (1, true), (2, true), (3, true), (4, true), (5, true), (6, true), (7, true), (8, true), (9, true), (10, true), (11, true)] (by kernel_rfl) (by kernel_rfl) ?_ (by intro c a d v w h; cases d <;> exact h) ?_
  · exact ⟨hca4, hct4, hcc4⟩
  simp only [pickOps, List.getElem?_cons_succ, List.getElem?_cons_zero, List.map_cons, List.map_nil, List.drop_succ_cons, List.drop_zero]
  repeat ((with_reducible refine wpMix_read ?_ (fun K hK => ?_)); (focus rfl); apply Exists.intro; refine ⟨fun w' hS => ?_, ?_⟩; (focus (try dsimp only at hS; go_simp; try rfl)); go_simp; refine hK _ ?_; clear hK K)
  refine wpMix_nil ?_
  go_wp2_with fail
  refine (catalog_drop_none _ _).mono ?_
  rintro e w5 ⟨rfl, hb5⟩
  have hF5 : Fr (fun _ => False) w4 w5 := ((Fr.refl (fun _ => False) w4).drew).trans (Fr.of_below hb5) (fun _ _ f => f)
  have h5 := R.out.1.fr_new hF5
  have R5 := Lib.hid (And.intro h5 (And.intro (hF5.blk R.out.2.1 (fun f => f)) (And.intro R.out.2.2.2.2.2 (R.out.2.2.2.2.1.trans hF5 (fun _ _ f => f.elim)))))
  clear hb5 hF5 h5 hca4 hct4 hcc4
  go_wp2_with fail
  go_end0
  exact ⟨rfl, _, _, R5.out.1, R5.out.2.1, R5.out.2.2.1, R5.out.2.2.2⟩

theorem enters_savein (a b : Value) : Enters 151 (#[] ++ #[a, b]) := fun w => by simp [go_sem]

theorem HS.saves_facts {S : HS} (ok : S.ok) (hc : S.D.calm) {L : List EN} (hL : L.length ≤ S.G.l.count 0) : (S.saves L).ok ∧ (S.saves L).D.calm ∧ (S.saves L).keep = 0 ∧ (S.saves L).gone = S.gone ∧ S.headOf L ≤ 8192 ∧ (S.saves L).G.l.count 0 = S.G.l.count 0 - L.length :=
  saved_ok (S := { S with keep := 0 }) ⟨ok.gok, ok.end_, ok.dl⟩ hc L hL

set_option maxHeartbeats 4000000 in
theorem store_save (h : CW w B C S K yg gv lv 0 []) (ok : S.ok) (hg0 : S.gone = []) (hc : S.D.calm) (L : List EN) (hv : VolsAre K.vols L) (hL : L.length ≤ 1000) (hE : ∀ E ∈ L, E.small) (hroom : L.length ≤ S.G.l.count 0) (hsort : SortsIt C K.vols)
    (t d : Nat) (s : SU) (hs : s.head = 0) (ht : w.heap[t]? = some (storeObj C.c d s)) :
    Calls Tryz.prog 100 #[.pointer (some ⟨t, 0, none⟩)] w fun e w' => e = .returned (.int .i64 (S.headOf L : Int)) ∧ CW w' B C (S.saves L) K yg (.slice none 0 0) (.slice none 0 0) 0 [] ∧ Fr (HF B yg lv) w w' := by
  have hF : Fr (fun _ => False) w ((w.alloc (.cells #[ptr t] 63)).alloc (.cells #[.int .i64 0] 3)) := ((Fr.refl _ w).alloc _).alloc _
  have b1 := blk_alloc (o' := .cells #[.int .i64 0] 3) (blk_new (w := w) (o := .cells #[ptr t] 63) rfl)
  have b2 := blk_new (o := .cells #[.int .i64 0] 3) (size_alloc (w := w) (o := .cells #[ptr t] 63) rfl)
  have hz := size_alloc (o := .cells #[.int .i64 0] 3) (size_alloc (w := w) (o := .cells #[ptr t] 63) rfl)
  have hct := cell_blk (hF.blk ht (fun f => f))
  have hcc := cell_blk (hF.blk h.co.hc (fun f => f))
  have htry : Calls Tryz.prog 37 #[.pointer (some ⟨B.h, 0, none⟩), cl 151 #[ptr w.heap.size, ptr (w.heap.size + 1)]] ((w.alloc (.cells #[ptr t] 63)).alloc (.cells #[.int .i64 0] 3)) fun e w' =>
      e = .returned (.int .i64 0) ∧ w'.heap[w.heap.size + 1]? = some (.cells #[.int .i64 (S.headOf L : Int)] 3 (0, 0)) ∧ CW w' B C (S.saves L) K yg (.slice none 0 0) (.slice none 0 0) 0 [] ∧ Fr (HF B yg lv) w w' := by
    have h3 := h.fr_new hF
    generalize (w.alloc (.cells #[ptr t] 63)).alloc (.cells #[.int .i64 0] 3) = w3 at *
    have hnF : ∀ k, w.heap.size ≤ k → ¬ HF B yg lv k := fun k hk f => by have := h.hw.lt k f; omega
    refine (ctry_ok h3 151 #[ptr w.heap.size, ptr (w.heap.size + 1)] (enters_savein _ _)
      (fun S' K' lv2 w2 => S' = S.saves L ∧ K' = K ∧ w2.heap[w.heap.size + 1]? = some (.cells #[.int .i64 (S.headOf L : Int)] 3 (0, 0)) ∧ (∀ k, lv2.ownBlock = some k → lv.ownBlock = some k ∨ w3.heap.size ≤ k) ∧ Fr (fun k => HF B yg lv k ∨ k = w.heap.size + 1) w3 w2) ?_).mono ?_
    · simp only [Array.empty_append]
      have hFe : Fr (HF B yg lv) w3 ((deeper w3 B.g 0).alloc errObj) := ((Fr.refl (HF B yg lv) w3).setCell (p := ⟨B.g, 1, none⟩) (fun _ => .inl (by simp)) _).alloc _
      have hq : ((deeper w3 B.g 0).alloc errObj).heap[w3.heap.size]? = some errObj := by
        have := blk_new (w := deeper w3 B.g 0) (o := errObj) rfl
        rwa [size_deeper] at this
      have hge : w3.heap.size ≤ ((deeper w3 B.g 0).alloc errObj).heap.size := hFe.size
      have ht3 := hF.blk ht (fun f => f)
      have hnt : ¬ HF B yg lv t := h.hw.not_alien (.inl ⟨_, _, ht, by decide⟩)
      refine (store_save_in h3.enter (by simp) ok hc L hv hL hE hroom hsort t _ _ d s hs (hFe.blk ht3 hnt) (hFe.blk b1 (hnF _ (by omega))) (hFe.blk b2 (hnF _ (by omega))) (hnF _ (by omega)) (fun e => by have := (h.hw.gone.lt _ e).2; omega)).mono ?_
      rintro e w4 ⟨rfl, lv4, cs4, h4, hb4, hlv4, hF4⟩
      have sf := HS.saves_facts ok hc hroom
      refine ⟨rfl, hF4.blk hq ?_, S.saves L, K, gv, lv4, cs4, h4, ⟨rfl, rfl, hb4, fun k hk => (hlv4 k hk).imp_right (fun f => Nat.le_trans hge f), (hFe.mono (fun k _ f => .inl f)).trans hF4 (fun _ _ f => f)⟩, sf.1.gok, ?_, ?_⟩
      · rintro (f | f)
        · exact hnF _ (by omega) f
        · omega
      · rw [sf.2.2.2.1, hg0]; simp
      · rw [sf.2.2.2.1, hg0]; simp
    · rintro e w' ⟨rfl, S', K', w2, lv2, ⟨rfl, rfl, hi, hlv2, hF2⟩, hC, hF3, q1⟩
      have hn : ∀ k, k < w3.heap.size → ¬ HF B yg lv k → ¬ HF B yg lv2 k := by
        rintro k hk hn (f | f)
        · exact hn (.inl f)
        · rcases hlv2 k f with f | f
          · exact hn (.inr f)
          · omega
      have sf := HS.saves_facts ok hc hroom
      refine ⟨rfl, hF3.blk hi ?_, ?_, ?_⟩
      · rintro (f | e)
        · exact hn _ (by omega) (hnF _ (by omega)) f
        · omega
      · have : (S.saves L).free = S.saves L := by
          unfold HS.free
          rw [sf.2.2.2.1, hg0, List.foldl_nil]
          have := sf.2.2.2.1
          rw [hg0] at this
          rw [← this]
        rw [this] at hC
        exact hC
      · have hF23 : Fr (fun k => HF B yg lv k ∨ w.heap.size ≤ k) w3 w' := by
          refine (hF2.mono (fun k _ f => f.imp_right (fun f => by omega))).trans hF3 ?_
          rintro k hk (f | f)
          · by_cases h1 : HF B yg lv k
            · exact .inl h1
            · exact absurd f (hn k hk h1)
          · right; omega
        refine (hF.mono (G := HF B yg lv) (fun _ _ f => f.elim)).trans hF23 ?_
        rintro k hk (f | f)
        · exact f
        · omega
  have HT := Lib.hid htry
  clear htry h ok hg0 hc hv hL hE hroom hsort b1 b2 hz hF ht
  go_enter Tryz.func100, Tryz.ntmps100
  go_wp2_with fail
  refine HT.out.mono ?_
  rintro e w' ⟨rfl, hb, hC, hF⟩
  have hcb := cell_blk hb
  have R := Lib.hid (And.intro hC hF)
  clear hb hC hF hct hcc
  go_wp2_with fail
  go_ret
  exact ⟨rfl, R.out.1, R.out.2⟩
end
end Go.Proofs.YtajojhfialbfkaaGreatDoor
/- Layer 18: Commit, where the last catalog had no entries and there is power. -/
namespace Go.Proofs.YtajojhfialbfkaaGreatDoor
open Go.RowKit
set_option maxRecDepth 100000

section
variable {w w' : World} {B : HB} {C : CB} {S : HS} {K : KS} {yg : Nat} {gv lv : Value} {depth : Nat} {cs : List CStep}

theorem CW.of_disk {D' : DS} (h : CW w B C S K yg gv lv depth cs) (hg : DiskAt w' B.d (B.dsv S) D') (hlen : D'.l.length = S.D.l.length) (hF : Fr (DiskF B.d (B.dsv S)) w w') : CW w' B C { S with D := D' } K yg gv lv depth cs :=
  h.of_heap (hF.mono (fun _ _ hk => diskF_HF hk)) (h.hw.of_disk hg hlen hF)

theorem core_settle (h : CW w B C S K yg gv lv 0 []) (ok : S.ok) (h0 : 0 < S.G.l.length) :
    Calls Tryz.prog 35 #[.pointer (some ⟨B.h, 0, none⟩)] w fun e w' =>
      e = unit0 ∧ (∃ yg', CW w' B C S.settle K yg' gv lv 0 []) ∧ Fr (HF B yg lv) w w' := by
  refine (heap_settle h.hw ok.gok h0).mono ?_
  rintro e w' ⟨rfl, ⟨yg', hW, hy⟩, hF⟩
  have hn := fun k hk => h.not_HF (k := k) hk
  have hl := fun k hk => (h.alien k hk).lt
  refine ⟨rfl, ⟨yg', hW, ⟨hF.blk h.co.hc (hn _ (by simp)), hF.blk h.co.hr (hn _ (by simp)), hF.blk h.co.hx (hn _ (by simp)), h.co.vols.fr hF (hn _ (by simp))⟩, h.ix.fr hF (hn _ (by simp)), ?_⟩, hF⟩
  obtain ⟨a1, a2, a3, a4, a5⟩ := h.apart
  have l1 := hl C.l (by simp)
  have l2 := hl C.ix (by simp)
  exact ⟨a1, a2, by omega, a4, by omega⟩

theorem core_set_epoch (h : CW w B C S K yg gv lv depth cs) (n : Nat) :
    Calls Tryz.prog 34 #[.pointer (some ⟨C.c, 0, none⟩), .int .u32 (n : Int)] w fun e w' => e = unit0 ∧ CW w' B C S { K with epoch := n } yg gv lv depth cs ∧ Fr (fun k => k = C.c) w w' := by
  have hd := h.distinct
  simp only [List.nodup_cons, List.mem_cons, List.not_mem_nil, or_false, not_or] at hd
  refine (core_epoch h.co hd.1.1 hd.1.2.1 hd.1.2.2.1 n).mono ?_
  rintro e w' ⟨rfl, hc, hF⟩
  exact ⟨rfl, ⟨h.hw.fr_alien hF (fun k _ e => by rw [e]; exact h.alien C.c (by simp)), hc, h.ix.fr hF (fun e => hd.1.2.2.2 e.symm), h.apart⟩, hF⟩

theorem core_next (h : CW w B C S K yg gv lv depth cs) :
    Calls Tryz.prog 53 #[.pointer (some ⟨C.c, 0, none⟩)] w fun e w' => e = .returned (uk K.next) ∧ w = w' := by
  have hc := cell_blk h.co.hc
  clear h
  go_enter Tryz.func53, Tryz.ntmps53
  go_wp2_with fail
  go_ret
  exact ⟨rfl, rfl⟩

/-- The super behind a Commit. -/
def SU.after (s : SU) (head next : Nat) : SU := ⟨s.epoch + 1, s.journal, s.bits, head, next⟩
/-- The disk behind a Commit. -/
def DS.committed (D : DS) (s : SU) : DS := (D.sync.wrote (s.epoch % 2) (bstr s.sector)).sync
/-- The heap behind a Commit. -/
def HS.committed (S : HS) (s : SU) : HS := ({ S with D := S.D.committed s } : HS).settle

theorem saved_len (S : HS) : ∀ L : List EN, (saved S L).1.D.l.length = S.D.l.length ∧ (saved S L).1.G.l.length = S.G.l.length
  | [] => ⟨rfl, rfl⟩
  | E :: L => by
    obtain ⟨h1, h2⟩ := saved_len S L
    exact ⟨by show ((saved S L).1.D.wrote _ _).l.length = _; rw [DS.wrote_len, h1], by show ((saved S L).1.G.put _ 1).l.length = _; rw [GS.put_len, h2]⟩

/-- A super stored in a store. -/
theorem st_set {w : World} {b : Nat} {x0 x1 x2 x3 x4 x5 x6 : Value} {t : TypeId} (h : w.heap[b]? = some (.cells #[x0, x1, x2, x3, x4, x5, x6] t (0, 0))) (y2 y3 y4 y5 y6 : Value) :
    (((((w.setCell ⟨b, 2, none⟩ y2).setCell ⟨b, 3, none⟩ y3).setCell ⟨b, 4, none⟩ y4).setCell ⟨b, 5, none⟩ y5).setCell ⟨b, 6, none⟩ y6).heap[b]? = some (.cells #[x0, x1, y2, y3, y4, y5, y6] t (0, 0)) ∧
    Fr (fun k => k = b) w (((((w.setCell ⟨b, 2, none⟩ y2).setCell ⟨b, 3, none⟩ y3).setCell ⟨b, 4, none⟩ y4).setCell ⟨b, 5, none⟩ y5).setCell ⟨b, 6, none⟩ y6) := by
  refine ⟨?_, (((((Fr.refl (fun k => k = b) w).setCell (p := ⟨b, 2, none⟩) (fun _ => rfl) _).setCell (p := ⟨b, 3, none⟩) (fun _ => rfl) _).setCell (p := ⟨b, 4, none⟩) (fun _ => rfl) _).setCell (p := ⟨b, 5, none⟩) (fun _ => rfl) _).setCell (p := ⟨b, 6, none⟩) (fun _ => rfl) _⟩
  have := blk_set (i := 6) (v := y6) (blk_set (i := 5) (v := y5) (blk_set (i := 4) (v := y4) (blk_set (i := 3) (v := y3) (blk_set (i := 2) (v := y2) h))))
  simpa only [List.setIfInBounds_toArray, List.set_cons_zero, List.set_cons_succ] using this

set_option maxHeartbeats 4000000 in
theorem store_commit (h : CW w B C S K yg gv lv 0 []) (ok : S.ok) (hg0 : S.gone = []) (hc : S.D.calm) (hD0 : 0 < S.D.l.length) (hG0 : 0 < S.G.l.length) (L : List EN) (hv : VolsAre K.vols L) (hL : L.length ≤ 1000) (hE : ∀ E ∈ L, E.small) (hroom : L.length ≤ S.G.l.count 0) (hsort : SortsIt C K.vols)
    (t : Nat) (s : SU) (hs : s.head = 0) (hep : s.epoch + 1 < 4294967296) (hsm : (s.after (S.headOf L) K.next).small) (hck : suCheck (s.after (S.headOf L) K.next) S.D.l.length = 0) (ht : w.heap[t]? = some (storeObj C.c B.d s)) :
    Calls Tryz.prog 44 #[.pointer (some ⟨t, 0, none⟩)] w fun e w' =>
      e = unit0 ∧ (∃ yg', CW w' B C ((S.saves L).committed (s.after (S.headOf L) K.next)) { K with epoch := s.epoch + 1 } yg' (.slice none 0 0) (.slice none 0 0) 0 []) ∧ w'.heap[t]? = some (storeObj C.c B.d (s.after (S.headOf L) K.next)) ∧ Fr (fun k => CF B C yg lv k ∨ k = t) w w' := by
  have hlen : (S.saves L).D.l.length = S.D.l.length := (saved_len { S with keep := 0 } L).1
  have hglen : (S.saves L).G.l.length = S.G.l.length := (saved_len { S with keep := 0 } L).2
  have sf := HS.saves_facts ok hc hroom
  have ht : w.heap[t]? = some (.cells #[.pointer (some ⟨C.c, 0, none⟩), .pointer (some ⟨B.d, 0, none⟩), .int .u32 (s.epoch : Int), .int .i64 s.journal, .int .i64 s.bits, .int .i64 0, .int .u32 (s.next : Int)] 71 (0, 0)) := by rw [ht, storeObj, hs]; rfl
  have hF0 : Fr (fun _ => False) w (w.alloc (.cells #[.int .u32 (s.epoch : Int), .int .i64 s.journal, .int .i64 s.bits, .int .i64 0, .int .u32 (s.next : Int)] 69)) := (Fr.refl _ w).alloc _
  have hb0 := blk_new (w := w) (o := .cells #[.int .u32 (s.epoch : Int), .int .i64 s.journal, .int .i64 s.bits, .int .i64 0, .int .u32 (s.next : Int)] 69) rfl
  have h0 := h.fr_new hF0
  have ht0 := hF0.blk ht (fun f => f)
  have hsv := store_save h0 ok hg0 hc L hv hL hE hroom hsort t B.d s hs (by rw [ht0, storeObj, hs]; rfl)
  have hnx : ∀ yg' lv', (∀ k, k < w.heap.size ∨ ¬ HF B yg' lv' k) → True := fun _ _ _ => trivial
  have hct := cell_blk ht
  have H := Lib.hid h
  have HSv := Lib.hid hsv
  have HSf := Lib.hid (And.intro sf (And.intro hlen (And.intro hglen (And.intro hD0 hG0))))
  have HOk := Lib.hid ok
  have HT := Lib.hid ht
  have HT0 := Lib.hid ht0
  have HB0 := Lib.hid hb0
  have HF0 := Lib.hid hF0
  have HSm := Lib.hid hsm
  have HCk := Lib.hid hck
  have HEp := Lib.hid hep
  obtain ⟨e1, he1⟩ : ∃ e1 : Nat, e1 = s.epoch + 1 := ⟨_, rfl⟩
  have hwe : IntKind.u32.wrap ((s.epoch : Int) + 1) = (e1 : Int) := by rw [IntWalk.u32_in _ (by omega)]; omega
  have HE1 := Lib.hid he1
  clear h ok hg0 hc hD0 hG0 hv hL hE hroom hsort hep hsm hck hlen hglen sf hsv hnx hs h0 he1
  go_enter Tryz.func44, Tryz.ntmps44
  go_wp2_with fail
  generalize w.alloc (.cells #[.int .u32 (s.epoch : Int), .int .i64 s.journal, .int .i64 s.bits, .int .i64 0, .int .u32 (s.next : Int)] 69) = w0 at *
  clear hct ht ht0 hb0 hF0
  refine HSv.out.mono ?_
  rintro e w1 ⟨rfl, h1, hF1⟩
  have hnx : ¬ HF B yg lv w.heap.size := fun f => by have := H.out.hw.lt _ f; omega
  have hnt : ¬ HF B yg lv t := H.out.hw.not_alien (.inl ⟨_, _, HT.out, by decide⟩)
  have hb1 := hF1.blk HB0.out hnx
  have ht1 := hF1.blk HT0.out hnt
  have hntx : t ≠ w.heap.size := by have := lt_of_blk HT.out; omega
  have hcb1 := cell_blk hb1
  have hfb1 := frozen_blk hb1
  have hb2 := blk_set (i := 3) (v := .int .i64 (S.headOf L : Int)) hb1
  have hb3 := blk_set (i := 0) (v := .int .u32 (e1 : Int)) hb2
  simp only [List.setIfInBounds_toArray, List.set_cons_zero, List.set_cons_succ] at hb2 hb3
  have hF3 : Fr (fun k => k = w.heap.size) w1 ((w1.setCell ⟨w.heap.size, 3, none⟩ (.int .i64 (S.headOf L : Int))).setCell ⟨w.heap.size, 0, none⟩ (.int .u32 (e1 : Int))) := ((Fr.refl (fun k => k = w.heap.size) w1).setCell (p := ⟨w.heap.size, 3, none⟩) (fun _ => rfl) _).setCell (p := ⟨w.heap.size, 0, none⟩) (fun _ => rfl) _
  have h3 := h1.fr_out hF3 (fun k _ e => by rw [e]; exact ⟨_, _, hb1, by decide⟩)
  have ht3 := hF3.blk ht1 hntx
  have hcb2 := cell_blk hb2
  have hfb2 := frozen_blk hb2
  have HB3 := Lib.hid hb3
  have HG3 := Lib.hid (show Fr (fun k => CF B C yg lv k ∨ k = t) w _ from ((HF0.out.mono (G := fun k => CF B C yg lv k ∨ k = t) (fun _ _ f => f.elim)).trans hF1 (fun k _ f => .inl (.inl f))).trans hF3 (fun k _ f => by omega))
  have H3 := Lib.hid h3
  have HT3 := Lib.hid ht3
  have HNtx := Lib.hid hntx
  have hct3 := cell_blk ht3
  clear hF1 hnx hnt hb1 ht1 hntx hb2 hb3 hF3 h3 ht3 h1
  go_wp2_with fail
  generalize (w1.setCell ⟨w.heap.size, 3, none⟩ (.int .i64 (S.headOf L : Int))).setCell ⟨w.heap.size, 0, none⟩ (.int .u32 (e1 : Int)) = w3 at *
  refine (core_next H3.out).mono ?_
  rintro e w4 ⟨rfl, rfl⟩
  have hcb3 := cell_blk HB3.out
  have hfb3 := frozen_blk HB3.out
  have hb4 := blk_set (i := 4) (v := .int .u32 (K.next : Int)) HB3.out
  simp only [List.setIfInBounds_toArray, List.set_cons_zero, List.set_cons_succ] at hb4
  have hF4 : Fr (fun k => k = w.heap.size) w3 (w3.setCell ⟨w.heap.size, 4, none⟩ (.int .u32 (K.next : Int))) := (Fr.refl (fun k => k = w.heap.size) w3).setCell (p := ⟨w.heap.size, 4, none⟩) (fun _ => rfl) _
  have h4 := H3.out.fr_out hF4 (fun k _ e => by rw [e]; exact ⟨_, _, HB3.out, by decide⟩)
  have ht4 := hF4.blk HT3.out HNtx.out
  have hct4 := cell_blk ht4
  have hsy := disk_sync_calm h4.hw.disk HSf.out.1.2.1 (by have := HSf.out.2.1; have := HSf.out.2.2.2.1; omega) HSf.out.1.1.dl
  have HG4 := Lib.hid (HG3.out.trans hF4 (fun k _ f => by omega))
  have HB4 := Lib.hid hb4
  have HT4 := Lib.hid ht4
  have H4 := Lib.hid h4
  have HSy := Lib.hid hsy
  clear hb4 hF4 h4 ht4 hsy hct3 hcb1 hfb1 hcb2 hfb2 HB3 H3 HT3
  unfold uk
  go_wp2_with fail
  generalize w3.setCell ⟨w.heap.size, 4, none⟩ (.int .u32 (K.next : Int)) = w4 at *
  refine HSy.out.mono ?_
  rintro e w5 ⟨rfl, hd5, hF5⟩
  have hnF : ∀ {q : Nat} {o : Array Value} {ty : TypeId}, w4.heap[q]? = some (.cells o ty (0, 0)) → hpTy.contains ty = false → ¬ DiskF B.d (B.dsv (S.saves L)) q := fun hb hty f => H4.out.hw.not_alien (.inl ⟨_, _, hb, hty⟩) (diskF_HF f)
  have h5 := H4.out.of_disk hd5 (DS.sync_len _) hF5
  have hb5 := hF5.blk HB4.out (hnF HB4.out (by decide))
  have ht5 := hF5.blk HT4.out (hnF HT4.out (by decide))
  have hcb5 := cell_blk hb5
  have hct5 := cell_blk ht5
  have HG5 := Lib.hid (HG4.out.trans hF5 (fun k _ f => .inl (.inl (diskF_HF (S := S.saves L) f))))
  have HB5 := Lib.hid hb5
  have HT5 := Lib.hid ht5
  have H5 := Lib.hid h5
  clear hd5 hF5 hnF h5 hb5 ht5 hct4 hcb3 hfb3 HSy
  go_wp2_with fail
  refine wp_region_perm 5 (fun w' => (∀ i, w'.cell? ⟨w.heap.size, i, none⟩ = #[.int .u32 (e1 : Int), .int .i64 s.journal, .int .i64 s.bits, .int .i64 (S.headOf L : Int), .int .u32 (K.next : Int)][i]?) ∧ (∀ i, w'.cell? ⟨t, i, none⟩ = #[.pointer (some ⟨C.c, 0, none⟩), .pointer (some ⟨B.d, 0, none⟩), .int .u32 (s.epoch : Int), .int .i64 s.journal, .int .i64 s.bits, .int .i64 0, .int .u32 (s.next : Int)][i]?)) [(0, true), (1, true), (2, true), (3, true), (4, true)] (by kernel_rfl) (by kernel_rfl) ?_ (by intro c a d v w h; cases d <;> exact h) ?_
  · exact ⟨hcb5, hct5⟩
  simp only [pickOps, List.getElem?_cons_succ, List.getElem?_cons_zero, List.map_cons, List.map_nil, List.drop_succ_cons, List.drop_zero]
  repeat ((with_reducible refine wpMix_read ?_ (fun K hK => ?_)); (focus rfl); apply Exists.intro; refine ⟨fun w' hS => ?_, ?_⟩; (focus (try dsimp only at hS; go_simp; try rfl)); go_simp; refine hK _ ?_; clear hK K)
  refine wpMix_nil ?_
  have h5d := H5.out.fr_new ((Fr.refl (fun _ => False) w5).drew)
  have hcal := DS.calm_sync HSf.out.1.2.1
  have hwr := super_write (s.after (S.headOf L) K.next) HSm.out h5d.hw.disk hcal.2.1 (by rw [hcal.2.2]; decide) (by rw [hcal.2.2]; decide) (by show ((S.saves L).D.sync).l.length ≤ 4096; rw [DS.sync_len]; exact HSf.out.1.1.dl) (by show suCheck _ (((S.saves L).D.sync).l.length : Int) = 0; rw [DS.sync_len, HSf.out.2.1]; exact HCk.out)
  simp only [SU.v, SU.after, ← HE1.out] at hwr
  have HWr := Lib.hid hwr
  clear h5d hcal hwr
  go_wp2_with fail
  refine HWr.out.mono ?_
  rintro e w6 ⟨hcase, hF6⟩
  have hF6 : Fr (DiskF B.d (B.dsv { S.saves L with D := (S.saves L).D.sync })) w5 w6 := ((Fr.refl _ w5).drew).trans hF6 (fun _ _ f => f)
  have hcal := DS.calm_sync HSf.out.1.2.1
  obtain ⟨rfl, hd6⟩ : e = unit0 ∧ DiskAt w6 B.d (B.dsv { S.saves L with D := (S.saves L).D.sync }) ((S.saves L).D.sync.wrote (e1 % 2) (bstr (s.after (S.headOf L) K.next).sector)) := by
    rcases hcase with ⟨h1, _, h2⟩ | ⟨_, hcan, _⟩
    · refine ⟨h1, ?_⟩
      simp only [SU.after, ← HE1.out]
      exact h2
    · rw [DS.calm_can hcal] at hcan; cases hcan
  have hnF : ∀ {q : Nat} {o : Array Value} {ty : TypeId}, w5.heap[q]? = some (.cells o ty (0, 0)) → hpTy.contains ty = false → ¬ DiskF B.d (B.dsv { S.saves L with D := (S.saves L).D.sync }) q := fun hb hty f => H5.out.hw.not_alien (.inl ⟨_, _, hb, hty⟩) (diskF_HF f)
  have h6 := H5.out.of_disk hd6 (DS.wrote_len _ _ _) hF6
  have hb6 := hF6.blk HB5.out (hnF HB5.out (by decide))
  have ht6 := hF6.blk HT5.out (hnF HT5.out (by decide))
  have hct6 := cell_blk ht6
  have hcal6 : ((S.saves L).D.sync.wrote (e1 % 2) (bstr (s.after (S.headOf L) K.next).sector)).calm := DS.calm_wrote hcal _ _
  have hl6 : ((S.saves L).D.sync.wrote (e1 % 2) (bstr (s.after (S.headOf L) K.next).sector)).l.length = S.D.l.length := by rw [DS.wrote_len, DS.sync_len, HSf.out.2.1]
  have hsy := disk_sync_calm h6.hw.disk hcal6 (by show 0 < ((S.saves L).D.sync.wrote (e1 % 2) (bstr (s.after (S.headOf L) K.next).sector)).l.length; rw [hl6]; exact HSf.out.2.2.2.1) (by show ((S.saves L).D.sync.wrote (e1 % 2) (bstr (s.after (S.headOf L) K.next).sector)).l.length ≤ 4096; rw [hl6]; exact HOk.out.dl)
  have HG6 := Lib.hid (HG5.out.trans hF6 (fun k _ f => .inl (.inl (diskF_HF (S := { S.saves L with D := (S.saves L).D.sync }) f))))
  have HB6 := Lib.hid hb6
  have HT6 := Lib.hid ht6
  have H6 := Lib.hid h6
  have HSy := Lib.hid hsy
  have HL6 := Lib.hid hl6
  clear hcase hF6 hcal hd6 hnF h6 hb6 ht6 hcal6 hl6 hsy hcb5 hct5 HWr
  go_wp2_with fail
  refine HSy.out.mono ?_
  rintro e w7 ⟨rfl, hd7, hF7⟩
  have hnF : ∀ {q : Nat} {o : Array Value} {ty : TypeId}, w6.heap[q]? = some (.cells o ty (0, 0)) → hpTy.contains ty = false → ¬ DiskF B.d (B.dsv { S.saves L with D := (S.saves L).D.sync }) q := fun hb hty f => H6.out.hw.not_alien (.inl ⟨_, _, hb, hty⟩) (diskF_HF (S := { S.saves L with D := (S.saves L).D.sync }) f)
  have hd7 : DiskAt w7 B.d (B.dsv { S.saves L with D := ((S.saves L).D.sync.wrote (e1 % 2) (bstr (s.after (S.headOf L) K.next).sector)) }) ((S.saves L).D.committed (s.after (S.headOf L) K.next)) := by
    have : ((S.saves L).D.committed (s.after (S.headOf L) K.next)) = ((S.saves L).D.sync.wrote (e1 % 2) (bstr (s.after (S.headOf L) K.next).sector)).sync := by rw [HE1.out]; rfl
    rw [this]; exact hd7
  have h7 := H6.out.of_disk hd7 (by rw [DS.committed, DS.sync_len, DS.wrote_len, DS.sync_len]; show (S.saves L).D.l.length = ((S.saves L).D.sync.wrote (e1 % 2) (bstr (s.after (S.headOf L) K.next).sector)).l.length; rw [DS.wrote_len, DS.sync_len]) hF7
  have hb7 := hF7.blk HB6.out (fun f => hnF HB6.out (by decide) f)
  have ht7 := hF7.blk HT6.out (fun f => hnF HT6.out (by decide) f)
  have hcb7 := cell_blk hb7
  have hct7 := cell_blk ht7
  have hft7 := frozen_blk ht7
  obtain ⟨ht8, hF8⟩ := st_set ht7 (.int .u32 (e1 : Int)) (.int .i64 s.journal) (.int .i64 s.bits) (.int .i64 (S.headOf L : Int)) (.int .u32 (K.next : Int))
  have h8 := h7.fr_out hF8 (fun k _ e => by rw [e]; exact ⟨_, _, ht7, by decide⟩)
  have hb8 := hF8.blk hb7 (fun e => HNtx.out e.symm)
  have hcc8 := cell_blk h8.co.hc
  have hct8 := cell_blk ht8
  have HG8 := Lib.hid ((HG6.out.trans hF7 (fun k _ f => .inl (.inl (diskF_HF (S := { S.saves L with D := (S.saves L).D.sync }) f)))).trans hF8 (fun k _ f => .inr f))
  have H8 := Lib.hid h8
  have HB8 := Lib.hid hb8
  have HT8 := Lib.hid ht8
  clear hF7 hd7 hnF h7 hb7 ht7 hct6 HSy h8 hb8 ht8 hF8
  go_wp2_with fail
  generalize ((((w7.setCell ⟨t, 2, none⟩ (.int .u32 (e1 : Int))).setCell ⟨t, 3, none⟩ (.int .i64 s.journal)).setCell ⟨t, 4, none⟩ (.int .i64 s.bits)).setCell ⟨t, 5, none⟩ (.int .i64 (S.headOf L : Int))).setCell ⟨t, 6, none⟩ (.int .u32 (K.next : Int)) = w8 at *
  clear hcb7 hct7 hft7
  refine (core_settle H8.out ⟨HSf.out.1.1.gok, ?_, ?_⟩ (by show 0 < (S.saves L).G.l.length; rw [HSf.out.2.2.1]; exact HSf.out.2.2.2.2)).mono ?_
  · have e1 := HSf.out.1.1.end_
    have e2 := HSf.out.2.1
    show (S.saves L).G.from_ + (S.saves L).G.l.length ≤ ((S.saves L).D.committed _).l.length
    rw [DS.committed, DS.sync_len, DS.wrote_len, DS.sync_len]
    exact e1
  · have e1 := HSf.out.1.1.dl
    show ((S.saves L).D.committed _).l.length ≤ 4096
    rw [DS.committed, DS.sync_len, DS.wrote_len, DS.sync_len]
    exact e1
  rintro e w9 ⟨rfl, ⟨yg9, h9⟩, hF9⟩
  have hnF : ∀ {q : Nat} {o : Array Value} {ty : TypeId}, w8.heap[q]? = some (.cells o ty (0, 0)) → hpTy.contains ty = false → ¬ HF B yg (.slice none 0 0) q := fun hb hty => H8.out.hw.not_alien (.inl ⟨_, _, hb, hty⟩)
  have hb9 := hF9.blk HB8.out (hnF HB8.out (by decide))
  have ht9 := hF9.blk HT8.out (hnF HT8.out (by decide))
  have hcb9 := cell_blk hb9
  have hct9 := cell_blk ht9
  have HG9 := Lib.hid (HG8.out.trans hF9 (fun k _ f => f.elim (fun f => .inl (.inl (.inl f))) (fun f => by cases f)))
  have H9 := Lib.hid h9
  have HT9 := Lib.hid ht9
  clear hF9 hnF hb9 ht9 h9 hcc8 hct8
  go_wp2_with fail
  refine wp_region_perm 6 (fun w' => (∀ i, w'.cell? ⟨w.heap.size, i, none⟩ = #[.int .u32 (e1 : Int), .int .i64 s.journal, .int .i64 s.bits, .int .i64 (S.headOf L : Int), .int .u32 (K.next : Int)][i]?) ∧ (∀ i, w'.cell? ⟨t, i, none⟩ = #[.pointer (some ⟨C.c, 0, none⟩), .pointer (some ⟨B.d, 0, none⟩), .int .u32 (e1 : Int), .int .i64 s.journal, .int .i64 s.bits, .int .i64 (S.headOf L : Int), .int .u32 (K.next : Int)][i]?)) [(0, true), (1, true), (2, true), (3, true), (4, true), (5, true)] (by kernel_rfl) (by kernel_rfl) ?_ (by intro c a d v w h; cases d <;> exact h) ?_
  · exact ⟨hcb9, hct9⟩
  simp only [pickOps, List.getElem?_cons_succ, List.getElem?_cons_zero, List.map_cons, List.map_nil, List.drop_succ_cons, List.drop_zero]
  repeat ((with_reducible refine wpMix_read ?_ (fun K hK => ?_)); (focus rfl); apply Exists.intro; refine ⟨fun w' hS => ?_, ?_⟩; (focus (try dsimp only at hS; go_simp; try rfl)); go_simp; refine hK _ ?_; clear hK K)
  refine wpMix_nil ?_
  go_wp2_with fail
  have h9d := H9.out.fr_new ((Fr.refl (fun _ => False) w9).drew)
  refine (core_set_epoch h9d e1).mono ?_
  rintro e w10 ⟨rfl, h10, hF10⟩
  have ht10 := hF10.blk (blk_drew HT9.out) (ne_blk (blk_drew HT9.out) h9d.co.hc (by decide))
  have HG10 := Lib.hid ((HG9.out.drew).trans hF10 (fun k _ f => .inl (.inr (by simp [f]))))
  have H10 := Lib.hid h10
  have HT10 := Lib.hid ht10
  clear h9d h10 hF10 ht10 hcb9 hct9
  go_wp2_with fail
  go_end0
  refine ⟨rfl, ⟨yg9, ?_⟩, ?_, HG10.out⟩
  · have := H10.out
    rw [HE1.out] at this
    exact this
  · rw [HT10.out, storeObj, SU.after, HE1.out]
end
end Go.Proofs.YtajojhfialbfkaaGreatDoor
