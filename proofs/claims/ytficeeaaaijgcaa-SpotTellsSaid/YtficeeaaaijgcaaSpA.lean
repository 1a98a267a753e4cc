/-
  The package spot: union, behind, set, cat.
-/
import Derived.Test.YtficeeaaaijgcaaShI
import Derived.Test.YtficeeaaaijgcaaSets
import Derived.Deep.RegionWith
namespace Go.Proofs.Ytficeeaaaijgcaa
open Go.RowKit
set_option linter.unusedVariables false

set_option maxHeartbeats 1000000 in
theorem spot_union_any (v u : Value) (l m : List Int) (w : World) (hv : RdI w v l) (hu : RdI w u m) (hl : l.length + m.length ≤ 10000000) :
    Calls Try.prog 92 #[v, u] w fun e w' => ∃ v', e = .returned v' ∧ OwI w' w.heap.size v' (riseL (l ++ m)) ∧ Below w.heap.size w w' := by
  go_enter Try.func92, Try.ntmps92
  go_wp2_with fail
  refine (clone_any _ _ _ hv (by omega)).mono ?_
  rintro e w1 ⟨v1, rfl, hown1, hb1⟩
  have hu1 := hu.below hb1
  have hsz := hb1.size
  clear hu hv
  go_wp2_with (at_builtin; refine wpList_append_R eInt rfl _ _ rfl w.heap.size _ _ _ _ rfl hown1 rfl hu1 (fun _ => rfl) hl hsz ?_; intro v2 w2 hown2 hb2)
  have hB2 := hb1.trans hb2
  clear hown1 hu1 hb1 hb2
  refine (sort_any _ _ w.heap.size _ hown2 (by rw [List.length_append]; omega) hB2.size).mono ?_
  rintro e w3 ⟨rfl, hown3, hb3⟩
  have hB3 := hB2.trans hb3
  clear hown2 hB2 hb3
  go_wp2_with fail
  refine (compact_any _ _ w.heap.size _ hown3 (by rw [sortL_length, List.length_append]; omega)).mono ?_
  rintro e w4 ⟨v4, rfl, hown4, hb4⟩
  go_wp2_with fail
  go_ret
  exact ⟨_, rfl, hown4, hB3.trans hb4⟩

/-- a block of the rows and the struct that 'over' writes to -/
def Touch (w : World) (k : Nat) : Prop := ∃ cs t, w.heap[k]? = some (.cells cs t (0, 0)) ∧ (t = 85 ∨ t = 30 ∨ t = 28)
/-- below X all is as it was; and of what there was nothing but those blocks has turned -/
structure Fr (X : Nat) (w w' : World) : Prop where
  os : w'.os = w.os
  tape : w'.tape = w.tape
  output : w'.output = w.output
  size : w.heap.size ≤ w'.heap.size
  block : ∀ k, k < w.heap.size → (k < X ∨ ¬ Touch w k) → w'.heap[k]? = w.heap[k]?
theorem Fr.refl (X : Nat) (w : World) : Fr X w w := ⟨rfl, rfl, rfl, Nat.le_refl _, fun _ _ _ => rfl⟩
theorem Fr.trans {X : Nat} {a b c : World} (h : Fr X a b) (k : Fr X b c) : Fr X a c :=
  ⟨k.os.trans h.os, k.tape.trans h.tape, k.output.trans h.output, Nat.le_trans h.size k.size, fun i hi hx => by
    have e := h.block i hi hx
    refine (k.block i (Nat.lt_of_lt_of_le hi h.size) ?_).trans e
    rcases hx with hx | hx
    · exact Or.inl hx
    · right
      unfold Touch at hx ⊢
      rw [e]
      exact hx⟩
theorem Fr.of_below {X : Nat} {w w' : World} (h : Below w.heap.size w w') : Fr X w w' := ⟨h.os, h.tape, h.output, h.size, fun k hk _ => h.block k hk⟩
theorem Fr.below {X : Nat} {w w' : World} (h : Fr X w w') (hX : X ≤ w.heap.size) : Below X w w' := ⟨h.os, h.tape, h.output, h.size, fun k hk => h.block k (by omega) (Or.inl hk)⟩
theorem Fr.drewN {X : Nat} {w w' : World} (h : Fr X w w') (n : Nat) : Fr X w (w'.drewN n) := ⟨h.os, h.tape, h.output, h.size, h.block⟩
/-- a block of another type -/
theorem Fr.keep {X : Nat} {w w' : World} (h : Fr X w w') {k : Nat} {cs : Array Value} {t : TypeId} (hk : w.heap[k]? = some (.cells cs t (0, 0))) (h1 : t ≠ 85) (h2 : t ≠ 30) (h3 : t ≠ 28) : w'.heap[k]? = some (.cells cs t (0, 0)) := by
  rw [h.block k (Array.getElem?_eq_some_iff.1 hk).1 (Or.inr ?_)]
  · exact hk
  · rintro ⟨cs', t', e, ht⟩
    rw [hk] at e
    cases e
    rcases ht with rfl | rfl | rfl
    · exact h1 rfl
    · exact h2 rfl
    · exact h3 rfl
theorem OwI.fr {X B : Nat} {w w' : World} {v : Value} {l : List Int} (h : OwI w B v l) (hf : Fr X w w') : OwI w' B v l := by
  refine ⟨h.1, ?_⟩
  rcases h.2 with h2 | ⟨g, cap, cur, hv, hg, hh, r⟩
  · exact Or.inl h2
  · exact Or.inr ⟨g, cap, cur, hv, hg, hf.keep hh (by decide) (by decide) (by decide), r⟩
/-- a store into a block of those types, from X on -/
theorem Fr.setCell {X : Nat} {w0 w : World} (h : Fr X w0 w) {g i : Nat} {cs : Array Value} {t : TypeId} (hg : w.heap[g]? = some (.cells cs t (0, 0))) (ht : t = 85 ∨ t = 30 ∨ t = 28) (hX : X ≤ g) (u : Value) : Fr X w0 (w.setCell ⟨g, i, none⟩ u) :=
  h.trans ⟨rfl, rfl, rfl, by simp [World.setCell], fun k hk hx => by
    refine Below.heap_setCell w ⟨g, i, none⟩ u k ?_
    rintro rfl
    rcases hx with hx | hx
    · omega
    · exact hx ⟨cs, t, hg, ht⟩⟩

/-- the struct x of 'over': its sets, and what follows each -/
def AllAt (w : World) (X : Nat) (vs vf : Value) (fvs : List Value) (z : List Value) (sets : List Rx) (fol : List (List Int)) : Prop :=
  w.heap[X]? = some (.cells (vs :: vf :: z).toArray 85 (0, 0)) ∧ OwSet w X vs sets ∧ w.ownsRow X 30 1 vf fol.length fvs ∧
  ∀ (i : Nat) (v : Value) (l : List Int), fvs[i]? = some v → fol[i]? = some l → OwI w X v l
section
variable {w w' : World} {X : Nat} {vs vf : Value} {fvs z : List Value} {sets : List Rx} {fol : List (List Int)}
theorem AllAt.lt (h : AllAt w X vs vf fvs z sets fol) : X < w.heap.size := (Array.getElem?_eq_some_iff.1 h.1).1
theorem own_below {e : TypeId} {size n B : Nat} {v : Value} {xs : List Value} (h : w.ownsRow B e size v n xs) (hb : Below w.heap.size w w') : w'.ownsRow B e size v n xs := by
  refine ⟨h.1, ?_⟩
  rcases h.2 with h2 | ⟨g, cap, cur, hv, hg, hh, r⟩
  · exact Or.inl h2
  · exact Or.inr ⟨g, cap, cur, hv, hg, by rw [hb.block g (Array.getElem?_eq_some_iff.1 hh).1]; exact hh, r⟩
theorem AllAt.below (h : AllAt w X vs vf fvs z sets fol) (hb : Below w.heap.size w w') : AllAt w' X vs vf fvs z sets fol :=
  ⟨by rw [hb.block X h.lt]; exact h.1, own_below h.2.1 hb, own_below h.2.2.1 hb, fun i v l hv hl => own_below (h.2.2.2 i v l hv hl) hb⟩
theorem AllAt.drewN (h : AllAt w X vs vf fvs z sets fol) (n : Nat) : AllAt (w.drewN n) X vs vf fvs z sets fol := h
/-- the row of what follows, spelt out -/
theorem AllAt.row (h : AllAt w X vs vf fvs z sets fol) (i : Nat) (hi : i < fol.length) : ∃ g cap cs v, vf = .slice (some ⟨g, 0, none⟩) fol.length cap ∧ w.heap[g]? = some (.cells cs 30 (0, 0)) ∧ X ≤ g ∧ g ≠ X ∧
    fvs[i]? = some v ∧ w.cell? ⟨g, i, none⟩ = some v ∧ w.frozen? ⟨g, i, none⟩ = false ∧ fol.length ≤ cap := by
  have hown := h.2.2.1
  rcases hown.2 with ⟨_, h0⟩ | ⟨g, cap, cur, rfl, hg, hh, hnc, hcm, hcs, htake⟩
  · omega
  · have hl : fvs.length = fol.length := by simpa using hown.1
    have hv : fvs[i]? = some (fvs[i]'(by omega)) := List.getElem?_eq_getElem (by omega)
    refine ⟨g, cap, cur, _, rfl, hh, hg, ?_, hv, ?_, World.ownsRow.frozenAt hown i, hnc⟩
    · rintro rfl
      rw [h.1] at hh
      cases hh
    · rw [World.ownsRow.cellAt hown i (by omega), hv]
theorem AllAt.stored (h : AllAt w X vs vf fvs z sets fol) {g cap : Nat} (hvf : vf = .slice (some ⟨g, 0, none⟩) fol.length cap) {cs : Array Value} (hg : w.heap[g]? = some (.cells cs 30 (0, 0))) (i : Nat) (hi : i < fol.length) (u : Value) (l : List Int) (hu : OwI w X u l) :
    AllAt (w.setCell ⟨g, i, none⟩ u) X vs vf (fvs.set i u) z sets (fol.set i l) := by
  have other : ∀ k, k ≠ g → (w.setCell ⟨g, i, none⟩ u).heap[k]? = w.heap[k]? := fun k hk => Below.heap_setCell w ⟨g, i, none⟩ u k hk
  have hn : ∀ {e : TypeId} {size n : Nat} {v : Value} {xs : List Value}, e ≠ 30 → w.ownsRow X e size v n xs → (w.setCell ⟨g, i, none⟩ u).ownsRow X e size v n xs := by
    intro e size n v xs he hown
    refine ⟨hown.1, ?_⟩
    rcases hown.2 with h2 | ⟨g', cap', cur, hv, hg', hh, r⟩
    · exact Or.inl h2
    · refine Or.inr ⟨g', cap', cur, hv, hg', ?_, r⟩
      rw [other g' (by rintro rfl; rw [hg] at hh; cases hh; exact he rfl)]
      exact hh
  refine ⟨?_, hn (by decide) h.2.1, ?_, ?_⟩
  · rw [other X (by rintro rfl; rw [h.1] at hg; cases hg)]
    exact h.1
  · have := (World.ownsRow.stored (hvf ▸ h.2.2.1) i u).1
    rw [List.length_set]
    rw [hvf]
    exact this
  · intro j v l' hv hl'
    by_cases e : j = i
    · subst e
      rw [List.getElem?_set_self (by have := (List.getElem?_eq_some_iff.1 hv).1; simpa using this)] at hv
      rw [List.getElem?_set_self hi] at hl'
      cases hv; cases hl'
      exact hn (by decide) hu
    · rw [List.getElem?_set_ne (by omega)] at hv hl'
      exact hn (by decide) (h.2.2.2 j v l' hv hl')
end

/-- what 'behind' makes of what follows -/
def updF (b : List Int) (fol : List (List Int)) (i : Int) : List (List Int) := fol.set i.toNat (riseL (fol.getD i.toNat [] ++ b))
theorem updF_len (b : List Int) (fol : List (List Int)) (i : Int) : (updF b fol i).length = fol.length := by simp [updF]
theorem foldl_updF_len (b : List Int) (l : List Int) (fol : List (List Int)) : (l.foldl (updF b) fol).length = fol.length := by
  induction l generalizing fol with
  | nil => rfl
  | cons x l ih => rw [List.foldl_cons, ih, updF_len]

def BhRel (X : Nat) (w0 : World) (vs vf : Value) (z : List Value) (sets : List Rx) (fol : List (List Int)) (la lb : List Int) (i : Value) (wr : World) : Prop :=
  ∃ k : Nat, k ≤ la.length ∧ i = .int .i64 k ∧ Fr X w0 wr ∧ ∃ fvs, AllAt wr X vs vf fvs z sets ((la.take k).foldl (updF lb) fol)

/-- small lists: rising, and below N -/
def SmF (N : Nat) (fol : List (List Int)) : Prop := ∀ l ∈ fol, Rising l ∧ ∀ x ∈ l, 0 ≤ x ∧ x < N
theorem rising_at (l : List Int) (h : Rising l) (h0 : ∀ x ∈ l, 0 ≤ x) : ∀ (j : Nat) (hj : j < l.length), (j : Int) ≤ l[j] := by
  intro j
  induction j with
  | zero => intro hj; exact h0 _ (List.getElem_mem hj)
  | succ j ih =>
    intro hj
    have h1 := ih (by omega)
    have h2 := List.pairwise_iff_getElem.1 h j (j + 1) (by omega) hj (by omega)
    omega
theorem rising_len (N : Nat) (l : List Int) (h : Rising l) (h0 : ∀ x ∈ l, 0 ≤ x ∧ x < N) : l.length ≤ N := by
  by_cases hn : l.length = 0
  · omega
  · have h1 := rising_at l h (fun x hx => (h0 x hx).1) (l.length - 1) (by omega)
    have h2 := (h0 _ (List.getElem_mem (show l.length - 1 < l.length by omega))).2
    omega
theorem SmF.upd {N : Nat} {fol : List (List Int)} (h : SmF N fol) (b : List Int) (hb : ∀ x ∈ b, 0 ≤ x ∧ x < N) (i : Int) : SmF N (updF b fol i) := by
  intro l hl
  unfold updF at hl
  rcases List.mem_or_eq_of_mem_set hl with hl | rfl
  · exact h l hl
  · refine ⟨riseL_rise _, fun x hx => ?_⟩
    rw [riseL_mem, List.mem_append] at hx
    rcases hx with hx | hx
    · have hd : fol.getD i.toNat [] ∈ fol ∨ fol.getD i.toNat [] = [] := by
        rw [List.getD_eq_getElem?_getD]
        cases hf : fol[i.toNat]? with
        | none => right; rfl
        | some y => left; exact List.mem_of_getElem? hf
      rcases hd with hd | hd
      · exact (h _ hd).2 x hx
      · rw [hd] at hx; cases hx
    · exact hb x hx
theorem SmF.fold {N : Nat} {fol : List (List Int)} (h : SmF N fol) (b : List Int) (hb : ∀ x ∈ b, 0 ≤ x ∧ x < N) (la : List Int) : SmF N (la.foldl (updF b) fol) := by
  induction la generalizing fol with
  | nil => exact h
  | cons x la ih => exact ih (h.upd b hb x)

theorem bh_next {X : Nat} {w wr w1 : World} {vs : Value} {fvs z : List Value} {sets : List Rx} {fol : List (List Int)} {g cap : Nat} {cs : Array Value} {u : Value} (hfr : Fr X w wr) (hall : AllAt wr X vs (.slice (some ⟨g, 0, none⟩) fol.length cap) fvs z sets fol)
    (hg : wr.heap[g]? = some (.cells cs 30 (0, 0))) (hXg : X ≤ g) (ii : Nat) (hi : ii < fol.length) (lb : List Int) (hb : Below wr.heap.size wr.drew w1) (hown : OwI w1 wr.heap.size u (riseL (fol[ii] ++ lb))) :
    Fr X w (w1.setCell ⟨g, ii, none⟩ u) ∧ AllAt (w1.setCell ⟨g, ii, none⟩ u) X vs (.slice (some ⟨g, 0, none⟩) fol.length cap) (fvs.set ii u) z sets (updF lb fol ii) := by
  have hb' : Below wr.heap.size wr w1 := ⟨hb.os, hb.tape, hb.output, hb.size, hb.block⟩
  have hg1 : w1.heap[g]? = some (.cells cs 30 (0, 0)) := by rw [hb'.block g (Array.getElem?_eq_some_iff.1 hg).1]; exact hg
  refine ⟨(hfr.trans (Fr.of_below hb')).setCell hg1 (Or.inr (Or.inl rfl)) hXg u, ?_⟩
  have h := (hall.below hb').stored rfl hg1 ii hi u (riseL (fol[ii] ++ lb)) (hown.mono (by have := hall.lt; omega))
  have e : updF lb fol ii = fol.set ii (riseL (fol[ii] ++ lb)) := by
    unfold updF
    rw [Int.toNat_natCast, List.getD_eq_getElem?_getD, List.getElem?_eq_getElem hi]
    rfl
  rw [e]
  exact h

set_option maxHeartbeats 2000000 in
theorem behind_any (X N : Nat) (va vb vs vf : Value) (fvs z : List Value) (sets : List Rx) (fol : List (List Int)) (la lb : List Int) (w : World) (hall : AllAt w X vs vf fvs z sets fol) (hz : z.length = 4)
    (ha : OwI w X va la) (hb : OwI w X vb lb) (hN : N ≤ 100000) (hsm : SmF N fol) (hlb : ∀ x ∈ lb, 0 ≤ x ∧ x < N) (hll : lb.length ≤ N) (hla : ∀ x ∈ la, 0 ≤ x ∧ x < fol.length) (hlal : la.length ≤ 100000) :
    Calls Try.prog 93 #[.pointer (some ⟨X, 0, none⟩), va, vb] w fun e w' => e = .returned (.tuple #[]) ∧ Fr X w w' ∧ ∃ fvs', AllAt w' X vs vf fvs' z sets (la.foldl (updF lb) fol) := by
  obtain ⟨a1, c1, rfl⟩ := ha.shape
  go_enter Try.func93, Try.ntmps93
  go_wp2_with fail
  go_loopw [10] (BhRel X w vs vf z sets fol la lb) (fun i _ => la.length - (intOf i).toNat)
  case atStart => exact ⟨0, by omega, rfl, Fr.refl _ _, fvs, hall⟩
  case round =>
    obtain ⟨k, hk, rfl, hfr, fvs1, hall1⟩ := hrel
    have ha1 := ha.fr hfr
    have hb1 := hb.fr hfr
    by_cases hlt : k < la.length
    · obtain ⟨b0, o0, rfl, hcell⟩ := ha1.rd.at k hlt
      have hin := hla _ (List.getElem_mem hlt)
      have Hsm : SmF N ((la.take k).foldl (updF lb) fol) := hsm.fold lb hlb _
      have Hlen : ((la.take k).foldl (updF lb) fol).length = fol.length := foldl_updF_len _ _ _
      obtain ⟨ii, hii⟩ : ∃ ii : Nat, la[k] = (ii : Int) := ⟨la[k].toNat, by omega⟩
      have Hts : Hid ((la.take (k + 1)).foldl (updF lb) fol = updF lb ((la.take k).foldl (updF lb) fol) la[k]) := Lib.hid (by
        rw [List.take_succ_eq_append_getElem hlt, List.foldl_append]; rfl)
      rw [hii] at hin Hts hcell
      clear hii
      generalize (la.take k).foldl (updF lb) fol = fol1 at hall1 Hsm Hlen Hts
      have hilt : ii < fol1.length := by omega
      obtain ⟨g, cap, cs, v, hvf, hg, hXg, hgX, hv, hc, hfz, hcap⟩ := hall1.row ii hilt
      have hlv : fol1[ii]? = some (fol1[ii]'hilt) := List.getElem?_eq_getElem hilt
      have hov := hall1.2.2.2 ii v _ hv hlv
      have hrise := Hsm _ (List.getElem_mem hilt)
      have hlen := rising_len N _ hrise.1 hrise.2
      have hX1 : wr.cell? ⟨X, 1, none⟩ = some vf := by simp [World.cell?, hall1.1]
      have hXlt := hall1.lt
      have hglt := (Array.getElem?_eq_some_iff.1 hg).1
      have Hlen' := Lib.hid Hlen; clear Hlen
      have Hall := Lib.hid hall1; clear hall1
      subst hvf
      have hU := spot_union_any v vb (fol1[ii]'hilt) lb
      have HU := Lib.hid hU; clear hU
      have Hvb := Lib.hid hb1.rd
      have Hov := Lib.hid hov.rd
      have Hfr := Lib.hid hfr
      clear ha1 hb1 hv hlv hrise hall hsm hfr hov
      have hcast : (ii : Int) < (fol1.length : Int) := by omega
      go_wp2_with fail
      go_region_with ((go_at_call 92; refine (HU.out _ ?_ ?_ ?_).mono ?_; exact Hov.out; exact Hvb.out; omega; rintro e w1 ⟨v1, rfl, hown1, hb1⟩; obtain ⟨a9, c9, rfl⟩ := hown1.shape; (have hX1' : w1.cell? ⟨X, 1, none⟩ = some (.slice (some ⟨g, 0, none⟩) fol1.length cap) := (hb1.cell (p := ⟨X, 1, none⟩) hXlt).trans hX1); (have hc' : w1.cell? ⟨g, ii, none⟩ = some v := (hb1.cell (p := ⟨g, ii, none⟩) hglt).trans hc); (have hfz' : w1.frozen? ⟨g, ii, none⟩ = false := (hb1.frozen (p := ⟨g, ii, none⟩) hglt).trans hfz)))
      all_goals
        go_wp2_with fail
        go_roundw
        case rel =>
          obtain ⟨h1, h2⟩ := bh_next Hfr.out Hall.out hg hXg ii hilt lb (by exact hb1) (by exact hown1)
          exact ⟨k + 1, by omega, by go_num, h1, _, by rw [Hts.out]; exact h2⟩
        case measure => simp [intOf]; omega
    · have e : la.take k = la := List.take_of_length_le (by omega)
      rw [e] at hall1
      go_wp2_with fail
      go_end0
      exact ⟨rfl, hfr, fvs1, hall1⟩
end Go.Proofs.Ytficeeaaaijgcaa
