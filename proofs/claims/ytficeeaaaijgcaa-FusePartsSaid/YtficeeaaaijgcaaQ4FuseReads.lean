/-
  Texts of this proof, put together: Sy, R10a, R10b, R10c, R10d, R10e, Sz, Sa1, Sa2, Sa3, Sb1, Sb2, Sc1, Sc2, Sc3, Sc4, Sc5, Sc6, Sd1, Sd2.
-/
import Derived.Deep.RegionWith
import Derived.Test.YtficeeaaaijgcaaQ3FuseReads

/-
  The package spot: what the machine holds of an expression; plain facts, no program here.
-/
namespace Go.Proofs.Ytficeeaaaijgcaa
open Go Go.RowKit
set_option linter.unusedVariables false
set_option linter.unusedSimpArgs false

theorem riseL_id {l : List Int} (h : Rising l) : riseL l = l := rise_ext (riseL_rise l) h fun x => riseL_mem l x

theorem updF_get (b : List Int) (fol : List (List Int)) (x : Int) (hx : 0 ≤ x) (i : Nat) : (updF b fol x)[i]? = if x = (i : Int) then (fol[i]?).map fun l => riseL (l ++ b) else fol[i]? := by
  unfold updF
  rw [List.getElem?_set]
  by_cases h : x = (i : Int)
  · have : x.toNat = i := by omega
    rw [if_pos this, if_pos h, this]
    by_cases hl : i < fol.length
    · rw [if_pos hl]; simp [hl]
    · rw [if_neg hl]; simp [List.getElem?_eq_none (by omega : fol.length ≤ i)]
  · rw [if_neg h, if_neg (by omega)]

theorem foldl_updF_get (b : List Int) (i : Nat) : ∀ (la : List Int) (fol : List (List Int)), (∀ x ∈ la, 0 ≤ x) → ∀ l', (la.foldl (updF b) fol)[i]? = some l' →
    ∃ l, fol[i]? = some l ∧ (Rising l → Rising l') ∧ (∀ j, j ∈ l' ↔ j ∈ l ∨ ((i : Int) ∈ la ∧ j ∈ b)) ∧ ((i : Int) ∉ la → l' = l)
  | [], fol, _, l', h => ⟨l', h, fun h => h, fun j => by simp, fun _ => rfl⟩
  | x :: la, fol, hx, l', h => by
    rw [List.foldl_cons] at h
    obtain ⟨l1, h1, r1, m1, e1⟩ := foldl_updF_get b i la _ (fun y hy => hx y (by simp [hy])) l' h
    rw [updF_get b fol x (hx x (by simp)) i] at h1
    by_cases hxi : x = (i : Int)
    · rw [if_pos hxi] at h1
      obtain ⟨l, hl, rfl⟩ := Option.map_eq_some_iff.1 h1
      refine ⟨l, hl, fun _ => r1 (riseL_rise _), fun j => ?_, fun hn => absurd (by simp [hxi]) hn⟩
      rw [m1, riseL_mem, List.mem_append]
      simp [hxi]
      exact fun _ h => .inr h
    · rw [if_neg hxi] at h1
      refine ⟨l1, h1, r1, fun j => ?_, fun hn => e1 (fun h => hn (by simp [h]))⟩
      rw [m1]
      have : ¬ (i : Int) = x := fun h => hxi h.symm
      simp [this]

/-- what the follow lists are behind an expression whose first spot is n -/
structure FolS (fol fol' : List (List Int)) (e : E) (n : Nat) : Prop where
  len : fol'.length = n + nset e
  old : ∀ i, i < n → fol'[i]? = fol[i]?
  new : ∀ (i : Nat) (l : List Int), n ≤ i → fol'[i]? = some l → Rising l ∧ ∀ j, j ∈ l ↔ folT e n i j

theorem FolS.join {fol fol' : List (List Int)} {e e' : E} {n : Nat} (la b : List Int) (h : FolS fol fol' e n) (hn : nset e' = nset e) (hla : ∀ x ∈ la, (n : Int) ≤ x) (hf : ∀ (i : Nat) (j : Int), n ≤ i → (folT e' n i j ↔ folT e n i j ∨ ((i : Int) ∈ la ∧ j ∈ b))) : FolS fol (la.foldl (updF b) fol') e' n := by
  have h0 : ∀ x ∈ la, 0 ≤ x := fun x hx => by have := hla x hx; omega
  refine ⟨by rw [foldl_updF_len, h.len, hn], fun i hi => ?_, fun i l hi hl => ?_⟩
  · cases hg : (la.foldl (updF b) fol')[i]? with
    | none =>
      have h1 := List.getElem?_eq_none_iff.1 hg
      rw [foldl_updF_len] at h1
      rw [← h.old i hi, List.getElem?_eq_none h1]
    | some l' =>
      obtain ⟨l, h1, _, _, e1⟩ := foldl_updF_get b i la fol' h0 l' hg
      rw [e1 (fun hm => by have := hla _ hm; omega), ← h.old i hi, h1]
  · obtain ⟨l1, h1, r1, m1, _⟩ := foldl_updF_get b i la fol' h0 l hl
    obtain ⟨r, m⟩ := h.new i l1 hi h1
    exact ⟨r1 r, fun j => by rw [m1, m, hf i j hi]⟩

theorem FolS.two {fol fa fb : List (List Int)} {a b : E} {n m : Nat} (hm : m = n + nset a) (h1 : FolS fol fa a n) (h2 : FolS fa fb b m) : FolS fol fb (.alt a b) n := by
  subst hm
  refine ⟨by rw [h2.len]; simp [nset]; omega, fun i hi => by rw [h2.old i (by omega), h1.old i hi], fun i l hi hl => ?_⟩
  by_cases hlt : i < n + nset a
  · rw [h2.old i hlt] at hl
    obtain ⟨r, m⟩ := h1.new i l hi hl
    refine ⟨r, fun j => ?_⟩
    rw [m]
    simp only [folT]
    constructor
    · exact .inl
    · rintro (h | h)
      · exact h
      · have := (fol_in b _ _ _ h).1; omega
  · obtain ⟨r, m⟩ := h2.new i l (by omega) hl
    refine ⟨r, fun j => ?_⟩
    rw [m]
    simp only [folT, Int.natCast_add]
    constructor
    · exact .inr
    · rintro (h | h)
      · have := (fol_in a _ _ _ h).1; omega
      · exact h

theorem FolS.same {fol fol' : List (List Int)} {e e' : E} {n : Nat} (h : FolS fol fol' e n) (hn : nset e' = nset e) (hf : ∀ i j : Int, folT e' n i j ↔ folT e n i j) : FolS fol fol' e' n :=
  ⟨by rw [h.len, hn], h.old, fun i l hi hl => ⟨(h.new i l hi hl).1, fun j => by rw [(h.new i l hi hl).2, hf]⟩⟩

theorem run_tree (e : E) : ∀ (S : SM), S.fol.length = S.sets.length → ∃ fol', (post e).foldl stepS S = ⟨S.sets ++ setsT e, fol', ⟨firstT e S.sets.length, lastT e S.sets.length, freeT e, nset e⟩ :: S.st⟩ ∧ FolS S.fol fol' e S.sets.length := by
  induction e with
  | set s0 s1 s2 s3 =>
    intro S hS
    refine ⟨S.fol ++ [[]], by simp [post, stepS, setsT, firstT, lastT, freeT, nset], ⟨by simp [nset, hS], fun i hi => by rw [List.getElem?_append_left (by omega)], fun i l hi hl => ?_⟩⟩
    rw [List.getElem?_append_right (by omega)] at hl
    cases hk : i - S.fol.length with
    | zero => rw [hk] at hl; simp at hl; subst hl; exact ⟨List.Pairwise.nil, fun j => by simp [folT]⟩
    | succ m => rw [hk] at hl; simp at hl
  | empty =>
    intro S hS
    exact ⟨S.fol, by simp [post, stepS, bareX, setsT, firstT, lastT, freeT, nset], ⟨by simp [nset, hS], fun i hi => rfl, fun i l hi hl => by rw [List.getElem?_eq_none (by omega)] at hl; cases hl⟩⟩
  | cat a b iha ihb =>
    intro S hS
    obtain ⟨fa, ea, Fa⟩ := iha S hS
    have hl : (S.sets ++ setsT a).length = S.sets.length + nset a := by rw [List.length_append, setsT_len]
    obtain ⟨fb, eb, Fb⟩ := ihb ⟨S.sets ++ setsT a, fa, ⟨firstT a S.sets.length, lastT a S.sets.length, freeT a, nset a⟩ :: S.st⟩ (by rw [hl]; exact Fa.len)
    simp only [hl] at eb Fb
    have F2 := FolS.two rfl Fa Fb
    refine ⟨(lastT a S.sets.length).foldl (updF (firstT b (S.sets.length + nset a))) fb, ?_, F2.join _ _ rfl (fun x hx => ((last_in a _).2 x hx).1) fun i j hi => ?_⟩
    · rw [post, List.foldl_append, ea, List.foldl_append, eb]
      simp only [List.foldl_cons, List.foldl_nil, stepS, bareX]
      rw [if_neg (by decide), if_neg (by decide), if_pos trivial]
      have h1 := first_in a S.sets.length
      have h2 := first_in b (S.sets.length + nset a)
      have h3 := last_in a S.sets.length
      have h4 := last_in b (S.sets.length + nset a)
      simp only [setsT, firstT, lastT, freeT, nset, pickU, List.append_assoc, Int.natCast_add]
      congr 3
      · cases hfa : freeT a
        · simp
        · simp only [if_true]
          exact riseL_id (rises_append h1.1 h2.1 (fun x hx => (h1.2 x hx).2) fun x hx => (h2.2 x hx).1)
      · cases hfb : freeT b
        · simp
        · simp only [if_true]
          exact riseL_id (rises_append h3.1 h4.1 (fun x hx => (h3.2 x hx).2) fun x hx => (h4.2 x hx).1)
    · simp only [folT]
      constructor
      · rintro (h | h | h)
        · exact .inl (.inl h)
        · exact .inl (.inr h)
        · exact .inr h
      · rintro ((h | h) | h)
        · exact .inl h
        · exact .inr (.inl h)
        · exact .inr (.inr h)
  | alt a b iha ihb =>
    intro S hS
    obtain ⟨fa, ea, Fa⟩ := iha S hS
    have hl : (S.sets ++ setsT a).length = S.sets.length + nset a := by rw [List.length_append, setsT_len]
    obtain ⟨fb, eb, Fb⟩ := ihb ⟨S.sets ++ setsT a, fa, ⟨firstT a S.sets.length, lastT a S.sets.length, freeT a, nset a⟩ :: S.st⟩ (by rw [hl]; exact Fa.len)
    simp only [hl] at eb Fb
    have F2 := FolS.two rfl Fa Fb
    refine ⟨fb, ?_, F2⟩
    rw [post, List.foldl_append, ea, List.foldl_append, eb]
    simp only [List.foldl_cons, List.foldl_nil, stepS, bareX]
    rw [if_neg (by decide), if_neg (by decide), if_neg (by decide), if_pos trivial]
    have h1 := first_in a S.sets.length
    have h2 := first_in b (S.sets.length + nset a)
    have h3 := last_in a S.sets.length
    have h4 := last_in b (S.sets.length + nset a)
    simp only [setsT, firstT, lastT, freeT, nset, List.append_assoc, Int.natCast_add]
    congr 3
    · exact riseL_id (rises_append h1.1 h2.1 (fun x hx => (h1.2 x hx).2) fun x hx => (h2.2 x hx).1)
    · exact riseL_id (rises_append h3.1 h4.1 (fun x hx => (h3.2 x hx).2) fun x hx => (h4.2 x hx).1)
  | star a ih =>
    intro S hS
    obtain ⟨fa, ea, Fa⟩ := ih S hS
    refine ⟨(lastT a S.sets.length).foldl (updF (firstT a S.sets.length)) fa, ?_, Fa.join _ _ rfl (fun x hx => ((last_in a _).2 x hx).1) fun i j hi => by simp [folT]⟩
    rw [post, List.foldl_append, ea]
    simp [stepS, bareX, setsT, firstT, lastT, freeT, nset]
  | plus a ih =>
    intro S hS
    obtain ⟨fa, ea, Fa⟩ := ih S hS
    refine ⟨(lastT a S.sets.length).foldl (updF (firstT a S.sets.length)) fa, ?_, Fa.join _ _ rfl (fun x hx => ((last_in a _).2 x hx).1) fun i j hi => by simp [folT]⟩
    rw [post, List.foldl_append, ea]
    simp [stepS, bareX, setsT, firstT, lastT, freeT, nset]
  | opt a ih =>
    intro S hS
    obtain ⟨fa, ea, Fa⟩ := ih S hS
    refine ⟨fa, ?_, Fa.same rfl fun i j => by simp [folT]⟩
    rw [post, List.foldl_append, ea]
    simp [stepS, bareX, setsT, firstT, lastT, freeT, nset]

theorem runS_post (e : E) : ∃ fol, runS (post e) = ⟨setsT e, fol, [⟨firstT e 0, lastT e 0, freeT e, nset e⟩]⟩ ∧ FolS [] fol e 0 := by
  obtain ⟨fol, h1, h2⟩ := run_tree e ⟨[], [], []⟩ rfl
  exact ⟨fol, by rw [runS, h1]; rfl, h2⟩
end Go.Proofs.Ytficeeaaaijgcaa

namespace Go.Proofs.Ytficeeaaaijgcaa
open Go.RowKit
set_option linter.unusedVariables false

set_option maxHeartbeats 400000 in
theorem number_any (v : Value) (l : List Rx) (w : World) (hv : RdX w v l) (hl : l.length ≤ 1000) (j : Nat) (hj : j ≤ l.length) :
    Calls Try.prog 94 #[v, .int .i64 j] w fun e w' => e = .returned (.int .i64 (numL l j)) ∧ w = w' := by
  obtain ⟨a, c, rfl⟩ := hv.shape
  go_enter Try.func94, Try.ntmps94
  go_wp2_with fail
  go_loop [5, 6] (fun n i => ∃ k : Nat, k ≤ j ∧ i = .int .i64 k ∧ n = .int .i64 (numL l k)) (fun _ i => j - (intOf i).toNat)
  case atStart => exact ⟨0, by omega, rfl, rfl⟩
  case round =>
    obtain ⟨k, hk, rfl, rfl⟩ := hrel
    have hle := numL_le l k
    by_cases hlt : k < j
    · obtain ⟨_, b, o, rfl, hcell⟩ := hv.kindAt k (by omega)
      have Hs := Lib.hid (numL_succ l k (by omega))
      by_cases hk1 : l[k].kind = 1
      · have e1 : (l[k].kind == 1) = true := by simp [hk1]
        have Hn : Hid (numL l (k + 1) = numL l k + 1) := Lib.hid (by rw [Hs.out, if_pos hk1])
        clear hk1 Hs
        go_wp2_with fail
        go_round
        case rel => exact ⟨k + 1, by omega, by go_num, by rw [Hn.out]; go_num⟩
        case measure => simp [intOf]; omega
      · have e1 : (l[k].kind == 1) = false := by simp [hk1]
        have Hn : Hid (numL l (k + 1) = numL l k) := Lib.hid (by rw [Hs.out, if_neg hk1]; rfl)
        clear hk1 Hs
        go_wp2_with fail
        go_round
        case rel => exact ⟨k + 1, by omega, by go_num, by rw [Hn.out]⟩
        case measure => simp [intOf]; omega
    · obtain rfl : k = j := by omega
      go_wp2_with fail
      go_ret
      exact ⟨rfl, rfl⟩

def FreeSpec (v : Value) (w : World) (i : Int) (r : Bool) : Prop := Calls Try.prog 62 #[v, .int .i64 i] w fun e w' => e = .returned (.bool r) ∧ w = w'

theorem free_leaf (v : Value) (l : List Rx) (w : World) (hv : RdX w v l) (hl : l.length ≤ 1000) (j : Nat) (hj : j < l.length) (k : Int) (hk : l[j].kind = k) (hk' : k = 1 ∨ k = 2 ∨ k = 5 ∨ k = 7) : FreeSpec v w j (decide (k ≠ 1)) := by
  obtain ⟨a, c, rfl⟩ := hv.shape
  obtain ⟨_, b, o, rfl, hcell⟩ := hv.kindAt j hj
  rw [hk] at hcell
  clear hk
  unfold FreeSpec
  rcases hk' with rfl | rfl | rfl | rfl
  all_goals
    go_enter Try.func62, Try.ntmps62
    go_wp2_with fail
    go_ret
    exact ⟨rfl, rfl⟩

theorem free_plus (v : Value) (l : List Rx) (w : World) (hv : RdX w v l) (hl : l.length ≤ 1000) (j : Nat) (hj : j < l.length) (hk : l[j].kind = 6) (r : Bool) (h1 : FreeSpec v w (j - 1) r) : FreeSpec v w j r := by
  obtain ⟨a, c, rfl⟩ := hv.shape
  obtain ⟨_, b, o, rfl, hcell⟩ := hv.kindAt j hj
  rw [hk] at hcell
  clear hk
  unfold FreeSpec at h1 ⊢
  have H1 := Lib.hid h1; clear h1
  go_enter Try.func62, Try.ntmps62
  go_wp2_with fail
  refine H1.out.mono ?_
  rintro e w1 ⟨rfl, rfl⟩
  go_wp2_with fail
  go_ret
  exact ⟨rfl, rfl⟩

theorem free_two (v : Value) (l : List Rx) (w : World) (hv : RdX w v l) (hl : l.length ≤ 1000) (j : Nat) (hj : j < l.length) (k : Int) (hk : l[j].kind = k) (hk' : k = 3 ∨ k = 4) (m : Nat) (hm : m < l.length) (r1 r2 : Bool) (h1 : FreeSpec v w (j - 1) r1) (hb : BegSpec v w (j - 1) m) (h2 : FreeSpec v w (m - 1) r2) :
    FreeSpec v w j (if k = 3 then r2 && r1 else r2 || r1) := by
  obtain ⟨a, c, rfl⟩ := hv.shape
  obtain ⟨_, b, o, rfl, hcell⟩ := hv.kindAt j hj
  rw [hk] at hcell
  clear hk
  unfold FreeSpec at h1 h2 ⊢
  unfold BegSpec at hb
  have H1 := Lib.hid h1; clear h1
  have H2 := Lib.hid h2; clear h2
  have HB := Lib.hid hb; clear hb
  rcases hk' with rfl | rfl
  all_goals
    cases r1 <;> cases r2
    all_goals
      go_enter Try.func62, Try.ntmps62
      go_wp2_with fail
      refine H1.out.mono ?_
      rintro e w1 ⟨rfl, rfl⟩
      go_wp2_with fail
      refine HB.out.mono ?_
      rintro e w1 ⟨rfl, rfl⟩
      go_wp2_with fail
      refine H2.out.mono ?_
      rintro e w1 ⟨rfl, rfl⟩
      go_wp2_with fail
      go_ret
      exact ⟨rfl, rfl⟩

theorem AtT.root {l : List Rx} {s t : Nat} {e : E} (h : AtT l s e t) : ∃ j, ∃ hj : j < l.length, j + 1 = t ∧ l[j].kind = kindT e :=
  ⟨t - 1, by have := h.bound; omega, by have := h.bound; omega, h.kind _ _ (by have := h.bound; omega)⟩

theorem free_any (l : List Rx) (hl : l.length ≤ 1000) (e : E) : ∀ (s t : Nat), AtT l s e t → ∀ (v : Value) (w : World), RdX w v l → ∀ i : Int, i = (t : Int) - 1 → FreeSpec v w i (freeT e) := by
  induction e with
  | set | empty =>
    intro s t h v w hv i hi
    obtain ⟨j, hj, hjt, hk⟩ := h.root
    obtain rfl : i = (j : Int) := by omega
    exact free_leaf v l w hv hl j hj _ hk (by simp [kindT])
  | star a | opt a =>
    intro s t h v w hv i hi
    obtain ⟨j, hj, hjt, hk⟩ := h.root
    obtain rfl : i = (j : Int) := by omega
    exact free_leaf v l w hv hl j hj _ hk (by simp [kindT])
  | cat a b iha ihb =>
    intro s t h v w hv i hi
    obtain ⟨j, hj, hjt, hk⟩ := h.root
    obtain ⟨m, ha, hb, hsm, hmt⟩ := h.cat
    obtain rfl : i = (j : Int) := by omega
    have := free_two v l w hv hl j hj _ hk (by simp [kindT]) m (by omega) _ _ (ihb m (t - 1) hb v w hv _ (by omega)) (begin_any l hl b m (t - 1) hb v w hv _ (by omega)) (iha s m ha v w hv _ (by omega))
    simpa [kindT, freeT] using this
  | alt a b iha ihb =>
    intro s t h v w hv i hi
    obtain ⟨j, hj, hjt, hk⟩ := h.root
    obtain ⟨m, ha, hb, hsm, hmt⟩ := h.alt
    obtain rfl : i = (j : Int) := by omega
    have := free_two v l w hv hl j hj _ hk (by simp [kindT]) m (by omega) _ _ (ihb m (t - 1) hb v w hv _ (by omega)) (begin_any l hl b m (t - 1) hb v w hv _ (by omega)) (iha s m ha v w hv _ (by omega))
    simpa [kindT, freeT] using this
  | plus a iha =>
    intro s t h v w hv i hi
    obtain ⟨j, hj, hjt, hk⟩ := h.root
    obtain rfl : i = (j : Int) := by omega
    exact free_plus v l w hv hl j hj (by rw [hk]; rfl) _ (iha s (t - 1) h.plus v w hv _ (by omega))
end Go.Proofs.Ytficeeaaaijgcaa

namespace Go.Proofs.Ytficeeaaaijgcaa
open Go.RowKit
set_option linter.unusedVariables false

def EndsSpec (v : Value) (w : World) (i : Int) (last : Bool) (r : List Int) : Prop :=
  Calls Try.prog 60 #[v, .int .i64 i, .bool last] w fun e w' => ∃ v', e = .returned v' ∧ OwI w' w.heap.size v' r ∧ Below w.heap.size w w'

theorem OwI_one (w : World) (n : Int) : OwI (w.alloc (.cells #[.int .i64 n] 3)) w.heap.size (.slice (some ⟨w.heap.size, 0, none⟩) 1 1) [n] :=
  World.ownsRow_lit w #[.int .i64 n] 1 (Nat.le_refl _) (by simp [maxLen]) rfl

set_option maxHeartbeats 400000 in
theorem ends_set (v : Value) (l : List Rx) (w : World) (hv : RdX w v l) (hl : l.length ≤ 1000) (j : Nat) (hj : j < l.length) (hk : l[j].kind = 1) (last : Bool) : EndsSpec v w j last [(numL l j : Int)] := by
  obtain ⟨a, c, rfl⟩ := hv.shape
  obtain ⟨_, b, o, rfl, hcell⟩ := hv.kindAt j hj
  rw [hk] at hcell
  clear hk
  unfold EndsSpec
  go_enter Try.func60, Try.ntmps60
  go_wp2_with fail
  refine (number_any _ l _ hv hl j (by omega)).mono ?_
  rintro e w1 ⟨rfl, rfl⟩
  go_wp2_with fail
  go_ret
  exact ⟨_, rfl, OwI_one _ _, (Below.refl _ _).alloc (Nat.le_refl _) _⟩

set_option maxHeartbeats 400000 in
theorem ends_empty (v : Value) (l : List Rx) (w : World) (hv : RdX w v l) (hl : l.length ≤ 1000) (j : Nat) (hj : j < l.length) (hk : l[j].kind = 2) (last : Bool) : EndsSpec v w j last [] := by
  obtain ⟨a, c, rfl⟩ := hv.shape
  obtain ⟨_, b, o, rfl, hcell⟩ := hv.kindAt j hj
  rw [hk] at hcell
  clear hk
  unfold EndsSpec
  go_enter Try.func60, Try.ntmps60
  go_wp2_with fail
  go_ret
  exact ⟨_, rfl, OwI_empty _, (Below.refl _ _).alloc (Nat.le_refl _) _⟩

set_option maxHeartbeats 400000 in
theorem ends_one (v : Value) (l : List Rx) (w : World) (hv : RdX w v l) (hl : l.length ≤ 1000) (j : Nat) (hj : j < l.length) (k : Int) (hk : l[j].kind = k) (hk' : k = 5 ∨ k = 6 ∨ k = 7) (last : Bool) (r : List Int) (h1 : EndsSpec v w (j - 1) last r) : EndsSpec v w j last r := by
  obtain ⟨a, c, rfl⟩ := hv.shape
  obtain ⟨_, b, o, rfl, hcell⟩ := hv.kindAt j hj
  rw [hk] at hcell
  clear hk
  unfold EndsSpec at h1 ⊢
  have H1 := Lib.hid h1; clear h1
  rcases hk' with rfl | rfl | rfl
  all_goals
    go_enter Try.func60, Try.ntmps60
    go_wp2_with fail
    refine H1.out.mono ?_
    rintro e w1 ⟨v1, rfl, hown, hb⟩
    go_wp2_with fail
    go_ret
    exact ⟨_, rfl, hown, hb⟩

/-- what 'ends' makes of two parts -/
def endsTwo (k : Int) (last f1 f2 : Bool) (ra rb : List Int) : List Int :=
  if k = 3 ∧ last = true ∧ f1 = false then rb else if k = 3 ∧ last = false ∧ f2 = false then ra else ra ++ rb

set_option maxHeartbeats 1000000 in
theorem ends_two (v : Value) (l : List Rx) (w : World) (hv : RdX w v l) (hl : l.length ≤ 1000) (j : Nat) (hj : j < l.length) (k : Int) (hk : l[j].kind = k) (hk' : k = 3 ∨ k = 4) (last : Bool) (m : Nat) (hm : m < l.length) (f1 f2 : Bool) (ra rb : List Int)
    (hs : ra.length + rb.length ≤ 10000000)
    (h1 : ∀ w, RdX w v l → EndsSpec v w (j - 1) last rb) (hb : ∀ w, RdX w v l → BegSpec v w (j - 1) m) (h2 : ∀ w, RdX w v l → EndsSpec v w (m - 1) last ra)
    (h3 : ∀ w, RdX w v l → FreeSpec v w (j - 1) f1) (h4 : ∀ w, RdX w v l → FreeSpec v w (m - 1) f2) : EndsSpec v w j last (endsTwo k last f1 f2 ra rb) := by
  obtain ⟨a, c, rfl⟩ := hv.shape
  obtain ⟨_, b, o, rfl, hcell⟩ := hv.kindAt j hj
  rw [hk] at hcell
  clear hk
  unfold EndsSpec at h1 h2 ⊢
  unfold BegSpec at hb
  unfold FreeSpec at h3 h4
  have H1 := Lib.hid h1; clear h1
  have H2 := Lib.hid h2; clear h2
  have H3 := Lib.hid h3; clear h3
  have H4 := Lib.hid h4; clear h4
  have HB := Lib.hid hb; clear hb
  rcases hk' with rfl | rfl <;> cases last <;> cases f1 <;> cases f2
  all_goals
    go_enter Try.func60, Try.ntmps60
    go_wp2_with fail
    refine (H1.out _ hv).mono ?_
    rintro e w1 ⟨v1, rfl, hown1, hb1⟩
    have hv1 := hv.below hb1
    clear hv
    go_wp2_with fail
    refine (HB.out _ hv1).mono ?_
    rintro e w1 ⟨rfl, rfl⟩
    go_wp2_with fail
    refine (H2.out _ hv1).mono ?_
    rintro e w2 ⟨v2, rfl, hown2, hb2⟩
    have hv2 := hv1.below hb2
    have hrd := hown1.rd.below hb2
    have hB : Below w.heap.size w w2 := hb1.trans (hb2.mono hb1.size)
    have hown1' := hown1.below hb2 (Nat.le_refl _)
    have hown2' := hown2.mono hb1.size
    clear hown1 hown2 hb1 hb2 hv1
    go_wp2_with (at_builtin; refine wpList_append_R eInt rfl _ _ rfl w.heap.size _ _ _ _ rfl hown2' rfl hrd (fun _ => rfl) hs hB.size ?_; intro v' w3 hown3 hb3; (have hB3 := Lib.hid (hB.trans hb3)); (have Hown := Lib.hid hown3); clear hown3 hb3)
    try first
      | ((with_reducible refine (H4.out _ hv2).mono ?_); (rintro e w3 ⟨rfl, rfl⟩); (go_wp2_with (at_builtin; refine wpList_append_R eInt rfl _ _ rfl w.heap.size _ _ _ _ rfl hown2' rfl hrd (fun _ => rfl) hs hB.size ?_; intro v' w3 hown3 hb3; (have hB3 := Lib.hid (hB.trans hb3)); (have Hown := Lib.hid hown3); clear hown3 hb3)))
      | ((with_reducible refine (H3.out _ hv2).mono ?_); (rintro e w3 ⟨rfl, rfl⟩); (go_wp2_with (at_builtin; refine wpList_append_R eInt rfl _ _ rfl w.heap.size _ _ _ _ rfl hown2' rfl hrd (fun _ => rfl) hs hB.size ?_; intro v' w3 hown3 hb3; (have hB3 := Lib.hid (hB.trans hb3)); (have Hown := Lib.hid hown3); clear hown3 hb3)))
    go_ret
    first
    | exact ⟨_, rfl, hown1', hB⟩
    | exact ⟨_, rfl, hown2', hB⟩
    | exact ⟨_, rfl, Hown.out, hB3.out⟩
end Go.Proofs.Ytficeeaaaijgcaa

namespace Go.Proofs.Ytficeeaaaijgcaa
open Go.RowKit
set_option linter.unusedVariables false

theorem firstT_len (e : E) : ∀ n, (firstT e n).length ≤ nset e := by
  induction e with
  | set => intro n; simp [firstT, nset]
  | empty => intro n; simp [firstT]
  | cat a b iha ihb => intro n; have := iha n; have := ihb (n + nset a); simp only [firstT, nset, List.length_append]; split <;> simp <;> omega
  | alt a b iha ihb => intro n; have := iha n; have := ihb (n + nset a); simp only [firstT, nset, List.length_append]; omega
  | star a ih => exact ih
  | plus a ih => exact ih
  | opt a ih => exact ih
theorem lastT_len (e : E) : ∀ n, (lastT e n).length ≤ nset e := by
  induction e with
  | set => intro n; simp [lastT, nset]
  | empty => intro n; simp [lastT]
  | cat a b iha ihb => intro n; have := iha n; have := ihb (n + nset a); simp only [lastT, nset, List.length_append]; split <;> simp <;> omega
  | alt a b iha ihb => intro n; have := iha n; have := ihb (n + nset a); simp only [lastT, nset, List.length_append]; omega
  | star a ih => exact ih
  | plus a ih => exact ih
  | opt a ih => exact ih
def endsT (e : E) (n : Int) (last : Bool) : List Int := if last then lastT e n else firstT e n
theorem endsT_len (e : E) (n : Int) (last : Bool) : (endsT e n last).length ≤ nset e := by
  unfold endsT; split
  · exact lastT_len e n
  · exact firstT_len e n
theorem AtT.nset_le {l : List Rx} {s t : Nat} {e : E} (h : AtT l s e t) : nset e ≤ l.length := by
  have h1 := Go.Proofs.Ytficeeaaaijgcaa.nset_le e
  have := h.bound
  obtain ⟨pre, suf, rfl, rfl, rfl⟩ := h
  simp; omega

theorem ends_any (l : List Rx) (hl : l.length ≤ 1000) (e : E) : ∀ (s t : Nat), AtT l s e t → ∀ (v : Value) (last : Bool) (i : Int), i = (t : Int) - 1 → ∀ (w : World), RdX w v l → EndsSpec v w i last (endsT e (numL l s) last) := by
  induction e with
  | set =>
    intro s t h v last i hi w hv
    obtain ⟨j, hj, hjt, hk⟩ := h.root
    obtain rfl : i = (j : Int) := by omega
    have : s = j := by obtain ⟨pre, suf, _, rfl, rfl⟩ := h; simp [post] at hjt; omega
    subst this
    have := ends_set v l w hv hl s hj hk last
    cases last <;> exact this
  | empty =>
    intro s t h v last i hi w hv
    obtain ⟨j, hj, hjt, hk⟩ := h.root
    obtain rfl : i = (j : Int) := by omega
    have := ends_empty v l w hv hl j hj hk last
    cases last <;> exact this
  | star a iha =>
    intro s t h v last i hi w hv
    obtain ⟨j, hj, hjt, hk⟩ := h.root
    obtain rfl : i = (j : Int) := by omega
    exact ends_one v l w hv hl j hj _ hk (by simp [kindT]) last _ (iha s (t - 1) h.star v last _ (by have := h.star.bound; omega) w hv)
  | plus a iha =>
    intro s t h v last i hi w hv
    obtain ⟨j, hj, hjt, hk⟩ := h.root
    obtain rfl : i = (j : Int) := by omega
    exact ends_one v l w hv hl j hj _ hk (by simp [kindT]) last _ (iha s (t - 1) h.plus v last _ (by have := h.plus.bound; omega) w hv)
  | opt a iha =>
    intro s t h v last i hi w hv
    obtain ⟨j, hj, hjt, hk⟩ := h.root
    obtain rfl : i = (j : Int) := by omega
    exact ends_one v l w hv hl j hj _ hk (by simp [kindT]) last _ (iha s (t - 1) h.opt v last _ (by have := h.opt.bound; omega) w hv)
  | cat a b iha ihb =>
    intro s t h v last i hi w hv
    obtain ⟨j, hj, hjt, hk⟩ := h.root
    obtain ⟨m, ha, hb, hsm, hmt⟩ := h.cat
    obtain rfl : i = (j : Int) := by omega
    have hn := ha.num
    have hla := endsT_len a (numL l s) last
    have hlb := endsT_len b (numL l m) last
    have hna := ha.nset_le
    have hnb := hb.nset_le
    have := ends_two v l w hv hl j hj _ hk (by simp [kindT]) last m (by omega) (freeT b) (freeT a) _ _ (by omega)
      (fun w hv => ihb m (t - 1) hb v last _ (by omega) w hv) (fun w hv => begin_any l hl b m (t - 1) hb v w hv _ (by omega)) (fun w hv => iha s m ha v last _ (by omega) w hv)
      (fun w hv => free_any l hl b m (t - 1) hb v w hv _ (by omega)) (fun w hv => free_any l hl a s m ha v w hv _ (by omega))
    have e : endsTwo (kindT (E.cat a b)) last (freeT b) (freeT a) (endsT a (numL l s) last) (endsT b (numL l m) last) = endsT (E.cat a b) (numL l s) last := by
      rw [hn]
      unfold endsTwo endsT
      cases last <;> cases hfa : freeT a <;> cases hfb : freeT b <;> simp [kindT, firstT, lastT, hfa, hfb]
    rw [e] at this
    exact this
  | alt a b iha ihb =>
    intro s t h v last i hi w hv
    obtain ⟨j, hj, hjt, hk⟩ := h.root
    obtain ⟨m, ha, hb, hsm, hmt⟩ := h.alt
    obtain rfl : i = (j : Int) := by omega
    have hn := ha.num
    have hla := endsT_len a (numL l s) last
    have hlb := endsT_len b (numL l m) last
    have hna := ha.nset_le
    have hnb := hb.nset_le
    have := ends_two v l w hv hl j hj _ hk (by simp [kindT]) last m (by omega) (freeT b) (freeT a) _ _ (by omega)
      (fun w hv => ihb m (t - 1) hb v last _ (by omega) w hv) (fun w hv => begin_any l hl b m (t - 1) hb v w hv _ (by omega)) (fun w hv => iha s m ha v last _ (by omega) w hv)
      (fun w hv => free_any l hl b m (t - 1) hb v w hv _ (by omega)) (fun w hv => free_any l hl a s m ha v w hv _ (by omega))
    have e : endsTwo (kindT (E.alt a b)) last (freeT b) (freeT a) (endsT a (numL l s) last) (endsT b (numL l m) last) = endsT (E.alt a b) (numL l s) last := by
      rw [hn]
      unfold endsTwo endsT
      cases last <;> simp [kindT, firstT, lastT]
    rw [e] at this
    exact this

/-- what is known of an expression's steps -/
def WfX (l : List Rx) (e : E) : Prop := l.length ≤ 512 ∧ l = post e
theorem WfX.at {l : List Rx} {e : E} (h : WfX l e) : AtT l 0 e l.length := by obtain ⟨_, rfl⟩ := h; exact AtT.whole e
theorem numL_zero (l : List Rx) : numL l 0 = 0 := by simp [numL]
theorem WfX.check {l : List Rx} {e : E} (h : WfX l e) : checkL l = 0 := by obtain ⟨h1, rfl⟩ := h; exact check_tree e h1
theorem wfx_of (l : List Rx) (h : checkL l = 0) : ∃ e, WfX l e := by obtain ⟨h1, e, he⟩ := tree_of l h; exact ⟨e, h1, he⟩

set_option maxHeartbeats 400000 in
theorem ref10_First_any (v : Value) (l : List Rx) (e : E) (w : World) (hv : RdX w v l) (he : WfX l e) :
    Calls Try.prog 17 #[v] w fun e' w' => ∃ v', e' = .returned v' ∧ OwI w' w.heap.size v' (firstT e 0) ∧ Below w.heap.size w w' := by
  obtain ⟨a, c, rfl⟩ := hv.shape
  have hc := Lib.hid he.check
  have hE := ends_any l (by have := he.1; omega) e 0 l.length he.at _ false ((l.length : Int) - 1) rfl w hv
  rw [numL_zero] at hE
  unfold EndsSpec endsT at hE
  have HE := Lib.hid hE; clear hE
  have hlen := he.1
  go_enter Try.func17, Try.ntmps17
  go_wp2_with fail
  refine (ref7_Check_any _ l _ hv).mono ?_
  rintro e1 w1 ⟨he1, rfl⟩
  rw [hc.out] at he1
  subst he1
  go_wp2_with fail
  refine HE.out.mono ?_
  rintro e1 w1 ⟨v1, rfl, hown, hb⟩
  go_wp2_with fail
  go_ret
  exact ⟨_, rfl, hown, hb⟩

set_option maxHeartbeats 400000 in
theorem ref10_Last_any (v : Value) (l : List Rx) (e : E) (w : World) (hv : RdX w v l) (he : WfX l e) :
    Calls Try.prog 19 #[v] w fun e' w' => ∃ v', e' = .returned v' ∧ OwI w' w.heap.size v' (lastT e 0) ∧ Below w.heap.size w w' := by
  obtain ⟨a, c, rfl⟩ := hv.shape
  have hc := Lib.hid he.check
  have hE := ends_any l (by have := he.1; omega) e 0 l.length he.at _ true ((l.length : Int) - 1) rfl w hv
  rw [numL_zero] at hE
  unfold EndsSpec endsT at hE
  have HE := Lib.hid hE; clear hE
  have hlen := he.1
  go_enter Try.func19, Try.ntmps19
  go_wp2_with fail
  refine (ref7_Check_any _ l _ hv).mono ?_
  rintro e1 w1 ⟨he1, rfl⟩
  rw [hc.out] at he1
  subst he1
  go_wp2_with fail
  refine HE.out.mono ?_
  rintro e1 w1 ⟨v1, rfl, hown, hb⟩
  go_wp2_with fail
  go_ret
  exact ⟨_, rfl, hown, hb⟩

set_option maxHeartbeats 400000 in
theorem ref10_Free_any (v : Value) (l : List Rx) (e : E) (w : World) (hv : RdX w v l) (he : WfX l e) :
    Calls Try.prog 23 #[v] w fun e' w' => e' = .returned (.bool (freeT e)) ∧ w = w' := by
  obtain ⟨a, c, rfl⟩ := hv.shape
  have hc := Lib.hid he.check
  have hE := free_any l (by have := he.1; omega) e 0 l.length he.at _ w hv ((l.length : Int) - 1) rfl
  unfold FreeSpec at hE
  have HE := Lib.hid hE; clear hE
  have hlen := he.1
  go_enter Try.func23, Try.ntmps23
  go_wp2_with fail
  refine (ref7_Check_any _ l _ hv).mono ?_
  rintro e1 w1 ⟨he1, rfl⟩
  rw [hc.out] at he1
  subst he1
  go_wp2_with fail
  refine HE.out.mono ?_
  rintro e1 w1 ⟨rfl, rfl⟩
  go_wp2_with fail
  go_ret
  exact ⟨rfl, rfl⟩
end Go.Proofs.Ytficeeaaaijgcaa

namespace Go.Proofs.Ytficeeaaaijgcaa
open Go.RowKit
set_option linter.unusedVariables false

set_option maxHeartbeats 400000 in
theorem ref10_Has_any (v : Value) (l : List Int) (n : Int) (w : World) (hv : RdI w v l) (hl : l.length ≤ 4000000) :
    Calls Try.prog 26 #[v, .int .i64 n] w fun e w' => e = .returned (.bool (decide (n ∈ l))) ∧ w = w' := by
  obtain ⟨a, c, rfl, hc⟩ := hv
  go_enter Try.func26, Try.ntmps26
  go_wp2
  go_loop [5] (fun i => ∃ k : Nat, k ≤ l.length ∧ i = .int .i64 k ∧ n ∉ l.take k) (fun i => l.length - (intOf i).toNat)
  case atStart => exact ⟨0, by omega, rfl, by simp⟩
  case round =>
    obtain ⟨k, hk, rfl, hn⟩ := hrel
    have Hn := Lib.hid hn; clear hn
    by_cases hlt : k < l.length
    · obtain ⟨b, o, rfl, hcell⟩ := hc k hlt
      clear hc
      by_cases he : l[k] = n
      · have he1 : (l[k] == n) = true := by simp [he]
        have Hm : Hid (n ∈ l) := by rw [← he]; exact List.getElem_mem hlt
        clear he
        go_wp2
        go_ret
        exact ⟨by simp [Hm.out], rfl⟩
      · have he1 : (l[k] == n) = false := by simp [he]
        have Hm : Hid (n ∉ l.take (k+1)) := by
          intro hh; rw [List.take_succ_eq_append_getElem hlt] at hh; rcases List.mem_append.1 hh with hh | hh
          · exact Hn.out hh
          · simp at hh; exact he hh.symm
        clear he
        go_wp2
        go_round
        case rel => exact ⟨k + 1, by omega, by go_num, Hm.out⟩
        case measure => simp [intOf]; omega
    · go_wp2
      go_ret
      have : l.take k = l := List.take_of_length_le (by omega)
      have h := Hn.out
      rw [this] at h
      exact ⟨by simp [h], rfl⟩

set_option maxHeartbeats 400000 in
theorem ref9_SameInts_any (v u : Value) (l m : List Int) (w : World) (hv : RdI w v l) (hu : RdI w u m) (hl : l.length ≤ 4000000) (hm : m.length ≤ 4000000) :
    Calls Try.prog 15 #[v, u] w fun e w' => e = .returned (.bool (decide (l = m))) ∧ ∃ n, w' = w.drewN n := by
  obtain ⟨a, c, rfl, hc⟩ := hv
  obtain ⟨a2, c2, rfl, hc2⟩ := hu
  by_cases hlen : l.length = m.length
  · have hlen1 : ((l.length : Int) != (m.length : Int)) = false := by simp [hlen]
    have Hlen := Lib.hid hlen; clear hlen
    go_enter Try.func15, Try.ntmps15
    go_wp2
    go_loopw [5] (fun i wr => (∃ n, wr = w.drewN n) ∧ ∃ k : Nat, k ≤ l.length ∧ i = .int .i64 k ∧ l.take k = m.take k) (fun i _ => l.length - (intOf i).toNat)
    case atStart => exact ⟨⟨0, rfl⟩, 0, by omega, rfl, by simp⟩
    case round =>
      obtain ⟨⟨q, rfl⟩, k, hk, rfl, hn⟩ := hrel
      have Hn := Lib.hid hn; clear hn
      by_cases hlt : k < l.length
      · obtain ⟨b, o, rfl, hcell⟩ := hc k hlt
        have hlt2 : k < m.length := by have := Hlen.out; omega
        obtain ⟨b', o', rfl, hcell'⟩ := hc2 k hlt2
        clear hc hc2
        by_cases hd : l[k] = m[k]
        · have hmm : Hid (l.take (k+1) = m.take (k+1)) := Lib.hid (by
            rw [take_succ l k hlt, take_succ m k hlt2, Hn.out, hd])
          have hd1 : (l[k] != m[k]) = false := by simp [hd]
          clear hd
          go_wp2
          go_quiet (fail)
          go_wp2
          go_roundw
          case rel => exact ⟨⟨_, rfl⟩, k + 1, by omega, by go_num, hmm.out⟩
          case measure => simp [intOf]; omega
        · have hf : Hid (l ≠ m) := by
            intro h; subst h; exact hd rfl
          have hd1 : (l[k] != m[k]) = true := by simp [hd]
          clear hd
          go_wp2
          go_quiet (fail)
          go_wp2
          go_ret
          exact ⟨by simp [hf.out], qd _ _ _⟩
      · go_wp2
        go_ret
        refine ⟨?_, _, rfl⟩
        have h := Hn.out
        rw [List.take_of_length_le (by omega), List.take_of_length_le (by have := Hlen.out; omega)] at h
        simp [h]
  · have hlen1 : ((l.length : Int) != (m.length : Int)) = true := by simp; omega
    have Hf : Hid (l ≠ m) := by intro h; exact hlen (by rw [h])
    clear hlen
    go_enter Try.func15, Try.ntmps15
    go_wp2
    go_ret
    exact ⟨by simp [Hf.out], 0, rfl⟩


/-- the root of step k -/
theorem WfX.sub {l : List Rx} {e : E} (h : WfX l e) (k : Nat) (hk : k < l.length) : ∃ f s n, (subs e 0)[k]? = some (f, (n : Int)) ∧ AtT l s f (k + 1) ∧ numL l s = n ∧ l[k].kind = kindT f := by
  have hs : k < (subs e 0).length := by rw [subs_len, ← h.2]; exact hk
  have hx := subs_at l e 0 l.length h.at k ((subs e 0)[k]) (by rw [numL_zero]; exact List.getElem?_eq_getElem hs)
  obtain ⟨s', h1, h2⟩ := hx
  rw [Nat.zero_add] at h1
  refine ⟨_, s', numL l s', ?_, h1, rfl, h1.kind k hk rfl⟩
  rw [List.getElem?_eq_getElem hs, h2]

def FlRel (e : E) (w : World) (L : Nat) (a b : Int) (i : Value) (wr : World) : Prop :=
  ∃ k : Nat, k ≤ L ∧ i = .int .i64 k ∧ Below w.heap.size w wr ∧ ∀ (j : Nat) (x : E × Int), j < k → (subs e 0)[j]? = some x → rootB x.1 x.2 a b = false

theorem folB_true {e : E} {a b : Int} {k : Nat} {x : E × Int} (h : (subs e 0)[k]? = some x) (hr : rootB x.1 x.2 a b = true) : folB e 0 a b = true :=
  List.any_eq_true.2 ⟨x, List.mem_of_getElem? h, hr⟩
theorem folB_false {e : E} {a b : Int} (h : ∀ (j : Nat) (x : E × Int), j < (subs e 0).length → (subs e 0)[j]? = some x → rootB x.1 x.2 a b = false) : folB e 0 a b = false := by
  rw [Bool.eq_false_iff]
  intro ht
  obtain ⟨x, hx, hr⟩ := List.any_eq_true.1 ht
  obtain ⟨j, hj, rfl⟩ := List.getElem_of_mem hx
  rw [h j _ hj (List.getElem?_eq_getElem hj)] at hr
  cases hr
theorem FlRel.step {e : E} {w w1 : World} {L : Nat} {a b : Int} {k : Nat} {x : E × Int} (hk : k < L) (hb : Below w.heap.size w w1) (hold : ∀ (j : Nat) (x : E × Int), j < k → (subs e 0)[j]? = some x → rootB x.1 x.2 a b = false) (hx : (subs e 0)[k]? = some x) (hr : rootB x.1 x.2 a b = false) (i : Value) (hi : i = .int .i64 ((k + 1 : Nat) : Int)) : FlRel e w L a b i w1 :=
  ⟨k + 1, by omega, hi, hb, fun j y hj hy => by
    by_cases e1 : j = k
    · subst e1; rw [hx] at hy; cases hy; exact hr
    · exact hold j y (by omega) hy⟩

set_option maxHeartbeats 2000000 in
theorem follows_any (v : Value) (l : List Rx) (e : E) (a b : Int) (w : World) (hv : RdX w v l) (he : WfX l e) :
    Calls Try.prog 61 #[v, .int .i64 a, .int .i64 b] w fun e' w' => e' = .returned (.bool (folB e 0 a b)) ∧ Below w.heap.size w w' := by
  have hl := he.1
  obtain ⟨ad, c, rfl⟩ := hv.shape
  go_enter Try.func61, Try.ntmps61
  go_wp2_with fail
  go_loopw [7] (FlRel e w l.length a b) (fun i _ => l.length - (intOf i).toNat)
  case atStart => exact ⟨0, by omega, rfl, Below.refl _ _, fun j x hj => by omega⟩
  case round =>
    obtain ⟨k, hk, rfl, hb, hold⟩ := hrel
    have Hold := Lib.hid hold; clear hold
    have hvr := hv.below hb
    by_cases hlt : k < l.length
    · obtain ⟨f, s, n, hsub, hat, hnum, hkind⟩ := he.sub k hlt
      obtain ⟨_, bb, o, rfl, hcell⟩ := hvr.kindAt k hlt
      rw [hkind] at hcell
      have Hsub := Lib.hid hsub; clear hsub
      have Hnum := Lib.hid hnum; clear hnum
      clear hkind
      cases f with
      | set | empty | alt x y | opt x =>
        simp only [kindT] at hcell
        go_wp2_with fail
        go_roundw
        case rel => exact FlRel.step hlt hb Hold.out Hsub.out rfl _ (by go_num)
        case measure => simp [intOf]; omega
      | star x =>
        simp only [kindT] at hcell
        have hb1 := hat.star.bound
        have hlen1 : (lastT x n).length ≤ 4000000 := by have := lastT_len x n; have := (hat.star).nset_le; omega
        have hlen2 : (firstT x n).length ≤ 4000000 := by have := firstT_len x n; have := (hat.star).nset_le; omega
        have E1 : Hid (∀ w, RdX w (.slice (some ⟨bb, o, none⟩) l.length c) l → Calls Try.prog 60 #[.slice (some ⟨bb, o, none⟩) l.length c, .int .i64 ((k : Int) - 1), .bool true] w fun e w' => ∃ v', e = .returned v' ∧ OwI w' w.heap.size v' (lastT x n) ∧ Below w.heap.size w w') := Lib.hid (fun w hv => by
          have := ends_any l (by omega) x s k (hat.star) _ true (((k : Int) - 1)) (by omega) w hv
          rw [Hnum.out] at this
          exact this)
        have E2 : Hid (∀ w, RdX w (.slice (some ⟨bb, o, none⟩) l.length c) l → Calls Try.prog 60 #[.slice (some ⟨bb, o, none⟩) l.length c, .int .i64 ((k : Int) - 1), .bool false] w fun e w' => ∃ v', e = .returned v' ∧ OwI w' w.heap.size v' (firstT x n) ∧ Below w.heap.size w w') := Lib.hid (fun w hv => by
          have := ends_any l (by omega) x s k (hat.star) _ false ((k : Int) - 1) (by omega) w hv
          rw [Hnum.out] at this
          exact this)
        go_wp2_with fail
        refine (E1.out _ hvr).mono ?_
        rintro e1 w1 ⟨v1, rfl, hown1, hb1⟩
        have hvr1 := hvr.below hb1
        have hB1 := hb.trans (hb1.mono hb.size)
        clear hvr hb hb1 hcell
        go_wp2_with fail
        refine (ref10_Has_any _ _ a _ hown1.rd hlen1).mono ?_
        rintro e2 w2 ⟨he2, rfl⟩
        by_cases hin : a ∈ lastT x n
        · rw [decide_eq_true hin] at he2
          subst he2
          have Hin := Lib.hid hin; clear hin hown1
          go_wp2_with fail
          refine (E2.out _ hvr1).mono ?_
          rintro e3 w3 ⟨v3, rfl, hown3, hb3⟩
          have hB3 := hB1.trans (hb3.mono hB1.size)
          clear hvr1 hB1 hb3
          go_wp2_with fail
          refine (ref10_Has_any _ _ b _ hown3.rd hlen2).mono ?_
          rintro e4 w4 ⟨he4, rfl⟩
          by_cases hin2 : b ∈ firstT x n
          · rw [decide_eq_true hin2] at he4
            subst he4
            have Ht : Hid (folB e 0 a b = true) := Lib.hid (folB_true Hsub.out ((rootB_star x n a b).2 ⟨Hin.out, hin2⟩))
            clear hin2 hown3
            go_wp2_with fail
            go_ret
            exact ⟨ret_bool Ht.out.symm, hB3⟩
          · rw [decide_eq_false hin2] at he4
            subst he4
            have Hr : Hid (rootB (.star x) n a b = false) := Lib.hid (by rw [Bool.eq_false_iff]; intro h; exact hin2 (((rootB_star x n a b).1 h).2))
            clear hin2 hown3
            go_wp2_with fail
            go_roundw
            case rel => exact FlRel.step hlt hB3 Hold.out Hsub.out Hr.out _ (by go_num)
            case measure => simp [intOf]; omega
        · rw [decide_eq_false hin] at he2
          subst he2
          have Hr : Hid (rootB (.star x) n a b = false) := Lib.hid (by rw [Bool.eq_false_iff]; intro h; exact hin (((rootB_star x n a b).1 h).1))
          clear hin hown1
          go_wp2_with fail
          go_roundw
          case rel => exact FlRel.step hlt hB1 Hold.out Hsub.out Hr.out _ (by go_num)
          case measure => simp [intOf]; omega
      | plus x =>
        simp only [kindT] at hcell
        have hb1 := hat.plus.bound
        have hlen1 : (lastT x n).length ≤ 4000000 := by have := lastT_len x n; have := (hat.plus).nset_le; omega
        have hlen2 : (firstT x n).length ≤ 4000000 := by have := firstT_len x n; have := (hat.plus).nset_le; omega
        have E1 : Hid (∀ w, RdX w (.slice (some ⟨bb, o, none⟩) l.length c) l → Calls Try.prog 60 #[.slice (some ⟨bb, o, none⟩) l.length c, .int .i64 ((k : Int) - 1), .bool true] w fun e w' => ∃ v', e = .returned v' ∧ OwI w' w.heap.size v' (lastT x n) ∧ Below w.heap.size w w') := Lib.hid (fun w hv => by
          have := ends_any l (by omega) x s k (hat.plus) _ true (((k : Int) - 1)) (by omega) w hv
          rw [Hnum.out] at this
          exact this)
        have E2 : Hid (∀ w, RdX w (.slice (some ⟨bb, o, none⟩) l.length c) l → Calls Try.prog 60 #[.slice (some ⟨bb, o, none⟩) l.length c, .int .i64 ((k : Int) - 1), .bool false] w fun e w' => ∃ v', e = .returned v' ∧ OwI w' w.heap.size v' (firstT x n) ∧ Below w.heap.size w w') := Lib.hid (fun w hv => by
          have := ends_any l (by omega) x s k (hat.plus) _ false ((k : Int) - 1) (by omega) w hv
          rw [Hnum.out] at this
          exact this)
        go_wp2_with fail
        refine (E1.out _ hvr).mono ?_
        rintro e1 w1 ⟨v1, rfl, hown1, hb1⟩
        have hvr1 := hvr.below hb1
        have hB1 := hb.trans (hb1.mono hb.size)
        clear hvr hb hb1 hcell
        go_wp2_with fail
        refine (ref10_Has_any _ _ a _ hown1.rd hlen1).mono ?_
        rintro e2 w2 ⟨he2, rfl⟩
        by_cases hin : a ∈ lastT x n
        · rw [decide_eq_true hin] at he2
          subst he2
          have Hin := Lib.hid hin; clear hin hown1
          go_wp2_with fail
          refine (E2.out _ hvr1).mono ?_
          rintro e3 w3 ⟨v3, rfl, hown3, hb3⟩
          have hB3 := hB1.trans (hb3.mono hB1.size)
          clear hvr1 hB1 hb3
          go_wp2_with fail
          refine (ref10_Has_any _ _ b _ hown3.rd hlen2).mono ?_
          rintro e4 w4 ⟨he4, rfl⟩
          by_cases hin2 : b ∈ firstT x n
          · rw [decide_eq_true hin2] at he4
            subst he4
            have Ht : Hid (folB e 0 a b = true) := Lib.hid (folB_true Hsub.out ((rootB_plus x n a b).2 ⟨Hin.out, hin2⟩))
            clear hin2 hown3
            go_wp2_with fail
            go_ret
            exact ⟨ret_bool Ht.out.symm, hB3⟩
          · rw [decide_eq_false hin2] at he4
            subst he4
            have Hr : Hid (rootB (.plus x) n a b = false) := Lib.hid (by rw [Bool.eq_false_iff]; intro h; exact hin2 (((rootB_plus x n a b).1 h).2))
            clear hin2 hown3
            go_wp2_with fail
            go_roundw
            case rel => exact FlRel.step hlt hB3 Hold.out Hsub.out Hr.out _ (by go_num)
            case measure => simp [intOf]; omega
        · rw [decide_eq_false hin] at he2
          subst he2
          have Hr : Hid (rootB (.plus x) n a b = false) := Lib.hid (by rw [Bool.eq_false_iff]; intro h; exact hin (((rootB_plus x n a b).1 h).1))
          clear hin hown1
          go_wp2_with fail
          go_roundw
          case rel => exact FlRel.step hlt hB1 Hold.out Hsub.out Hr.out _ (by go_num)
          case measure => simp [intOf]; omega
      | cat x y =>
        simp only [kindT] at hcell
        obtain ⟨m, hm1, hm2', hsm, hmk⟩ := hat.cat
        have hm2 : AtT l m y k := hm2'
        have hlen1 : (lastT x n).length ≤ 4000000 := by have := lastT_len x n; have := (hm1).nset_le; omega
        have hlen2 : (firstT y (n + nset x)).length ≤ 4000000 := by have := firstT_len y (n + nset x); have := (hm2).nset_le; omega
        have E1 : Hid (∀ w, RdX w (.slice (some ⟨bb, o, none⟩) l.length c) l → Calls Try.prog 60 #[.slice (some ⟨bb, o, none⟩) l.length c, .int .i64 ((m : Int) - 1), .bool true] w fun e w' => ∃ v', e = .returned v' ∧ OwI w' w.heap.size v' (lastT x n) ∧ Below w.heap.size w w') := Lib.hid (fun w hv => by
          have := ends_any l (by omega) x s m (hm1) _ true (((m : Int) - 1)) (by omega) w hv
          rw [Hnum.out] at this
          exact this)
        have E2 : Hid (∀ w, RdX w (.slice (some ⟨bb, o, none⟩) l.length c) l → Calls Try.prog 60 #[.slice (some ⟨bb, o, none⟩) l.length c, .int .i64 ((k : Int) - 1), .bool false] w fun e w' => ∃ v', e = .returned v' ∧ OwI w' w.heap.size v' (firstT y (n + nset x)) ∧ Below w.heap.size w w') := Lib.hid (fun w hv => by
          have := ends_any l (by omega) y m k (hm2) _ false ((k : Int) - 1) (by omega) w hv
          rw [(hm1).num, Int.natCast_add, Hnum.out] at this
          exact this)
        go_wp2_with fail
        refine (begin_any l (by omega) y m k hm2 _ _ hvr ((k : Int) - 1) rfl).mono ?_
        rintro e0 w0 ⟨rfl, rfl⟩
        go_wp2_with fail
        refine (E1.out _ hvr).mono ?_
        rintro e1 w1 ⟨v1, rfl, hown1, hb1⟩
        have hvr1 := hvr.below hb1
        have hB1 := hb.trans (hb1.mono hb.size)
        clear hvr hb hb1 hcell
        go_wp2_with fail
        refine (ref10_Has_any _ _ a _ hown1.rd hlen1).mono ?_
        rintro e2 w2 ⟨he2, rfl⟩
        by_cases hin : a ∈ lastT x n
        · rw [decide_eq_true hin] at he2
          subst he2
          have Hin := Lib.hid hin; clear hin hown1
          go_wp2_with fail
          refine (E2.out _ hvr1).mono ?_
          rintro e3 w3 ⟨v3, rfl, hown3, hb3⟩
          have hB3 := hB1.trans (hb3.mono hB1.size)
          clear hvr1 hB1 hb3
          go_wp2_with fail
          refine (ref10_Has_any _ _ b _ hown3.rd hlen2).mono ?_
          rintro e4 w4 ⟨he4, rfl⟩
          by_cases hin2 : b ∈ firstT y (n + nset x)
          · rw [decide_eq_true hin2] at he4
            subst he4
            have Ht : Hid (folB e 0 a b = true) := Lib.hid (folB_true Hsub.out ((rootB_cat x y n a b).2 ⟨Hin.out, hin2⟩))
            clear hin2 hown3
            go_wp2_with fail
            go_ret
            exact ⟨ret_bool Ht.out.symm, hB3⟩
          · rw [decide_eq_false hin2] at he4
            subst he4
            have Hr : Hid (rootB (.cat x y) n a b = false) := Lib.hid (by rw [Bool.eq_false_iff]; intro h; exact hin2 (((rootB_cat x y n a b).1 h).2))
            clear hin2 hown3
            go_wp2_with fail
            go_roundw
            case rel => exact FlRel.step hlt hB3 Hold.out Hsub.out Hr.out _ (by go_num)
            case measure => simp [intOf]; omega
        · rw [decide_eq_false hin] at he2
          subst he2
          have Hr : Hid (rootB (.cat x y) n a b = false) := Lib.hid (by rw [Bool.eq_false_iff]; intro h; exact hin (((rootB_cat x y n a b).1 h).1))
          clear hin hown1
          go_wp2_with fail
          go_roundw
          case rel => exact FlRel.step hlt hB1 Hold.out Hsub.out Hr.out _ (by go_num)
          case measure => simp [intOf]; omega
    · go_wp2_with fail
      go_ret
      exact ⟨ret_bool (folB_false fun j x hj hx => Hold.out j x (by rw [subs_len, ← he.2] at hj; omega) hx).symm, hb⟩
end Go.Proofs.Ytficeeaaaijgcaa

namespace Go.Proofs.Ytficeeaaaijgcaa
open Go.RowKit
set_option linter.unusedVariables false

def isSet (x : Rx) : Bool := x.kind == 1
def setsL (l : List Rx) : List Rx := if checkL l = 0 then l.filter isSet else []
theorem setsL_of {l : List Rx} {e : E} (h : WfX l e) : setsL l = setsT e := by
  unfold setsL
  rw [if_pos h.check, h.2]
  exact setsT_filter e
theorem filter_snoc {α : Type} (p : α → Bool) (l : List α) (k : Nat) (h : k < l.length) : (l.take (k+1)).filter p = (l.take k).filter p ++ (if p l[k] then [l[k]] else []) := by
  rw [List.take_succ_eq_append_getElem h, List.filter_append]; congr 1
  cases hp : p l[k] <;> simp [hp]

set_option maxHeartbeats 1000000 in
theorem ref10_Sets_any (v : Value) (l : List Rx) (w : World) (hv : RdX w v l) :
    Calls Try.prog 14 #[v] w fun e' w' => ∃ v', e' = .returned v' ∧ OwSet w' w.heap.size v' (setsL l) ∧ Below w.heap.size w w' := by
  have hv0 := hv
  obtain ⟨ad, c, rfl⟩ := hv.shape
  have hE := OwSet_empty w
  have hB : Below w.heap.size w (w.alloc (.cells #[] 28)) := (Below.refl _ _).alloc (Nat.le_refl _) _
  by_cases hck : checkL l = 0
  · have es : setsL l = l.filter isSet := by unfold setsL; rw [if_pos hck]
    rw [es]
    clear es
    have hlen : l.length ≤ 512 := by unfold checkL at hck; split at hck <;> omega
    have Hck := Lib.hid hck; clear hck
    go_enter Try.func14, Try.ntmps14
    go_wp2_with fail
    refine (ref7_Check_any _ l _ (hv.below hB)).mono ?_
    rintro e1 w1 ⟨he1, rfl⟩
    rw [Hck.out] at he1
    subst he1
    go_wp2_with fail
    go_loopw [3, 4] (fun v i wr => ∃ k : Nat, k ≤ l.length ∧ i = .int .i64 k ∧ OwSet wr w.heap.size v ((l.take k).filter isSet) ∧ Below w.heap.size w wr) (fun _ i _ => l.length - (intOf i).toNat)
    case atStart => exact ⟨0, by omega, rfl, hE, hB⟩
    case round =>
      clear hE hB
      obtain ⟨k, hk, rfl, hown, hb⟩ := hrel
      have hsz := hb.size
      by_cases hlt : k < l.length
      · obtain ⟨a', c', hva, hcc⟩ := hv0.below hb
        obtain ⟨b, o, hab, h0, h1, h2, h3, h4⟩ := hcc k hlt
        cases hva
        cases hab
        have hll : ((l.take k).filter isSet).length ≤ 1000000 := by have := List.length_filter_le isSet (l.take k); rw [List.length_take] at this; omega
        have Hs := Lib.hid (filter_snoc isSet l k hlt)
        clear hcc hv hv0
        by_cases hk1 : l[k].kind = 1
        · have e1 : (l[k].kind == 1) = true := by simp [hk1]
          have Hn : Hid ((l.take (k+1)).filter isSet = (l.take k).filter isSet ++ [l[k]]) := Lib.hid (by rw [Hs.out, if_pos (show isSet l[k] = true from e1)])
          clear hk1 Hs
          go_wp2_with (at_builtin; refine wpList_append_set rfl _ _ rfl w.heap.size _ _ rfl hown l[k] rfl hll hsz ?_; intro v' w1 hown1 hb1; (have Hb := Lib.hid (hb.trans hb1)); (have Hown := Lib.hid hown1); clear hown hown1 h0 h1 h2 h3 h4 hb hb1)
          go_roundw
          case rel => exact ⟨k + 1, by omega, by go_num, by rw [Hn.out]; exact Hown.out, Hb.out⟩
          case measure => simp [intOf]; omega
        · have e1 : (l[k].kind == 1) = false := by simp [hk1]
          have Hn : Hid ((l.take (k+1)).filter isSet = (l.take k).filter isSet) := Lib.hid (by rw [Hs.out, if_neg (by rw [show isSet l[k] = false from e1]; simp), List.append_nil])
          clear hk1 Hs
          go_wp2_with fail
          go_roundw
          case rel => exact ⟨k + 1, by omega, by go_num, by rw [Hn.out]; exact hown, hb⟩
          case measure => simp [intOf]; omega
      · have e : l.take k = l := List.take_of_length_le (by omega)
        rw [e] at hown
        go_wp2_with fail
        go_ret
        exact ⟨_, rfl, hown, hb⟩
  · have es : setsL l = [] := by unfold setsL; rw [if_neg hck]
    rw [es]
    clear es
    have hne : (checkL l != 0) = true := by simpa using hck
    clear hck
    go_enter Try.func14, Try.ntmps14
    go_wp2_with fail
    refine (ref7_Check_any _ l _ (hv.below hB)).mono ?_
    rintro e1 w1 ⟨rfl, rfl⟩
    go_wp2_with fail
    go_ret
    exact ⟨_, rfl, hE, hB⟩

def folL (e : E) (i : Int) (n : Nat) : List Int := ((List.range n).map fun (b : Nat) => (b : Int)).filter fun b => folB e 0 i b
theorem folL_succ (e : E) (i : Int) (k : Nat) : folL e i (k + 1) = folL e i k ++ (if folB e 0 i k then [(k : Int)] else []) := by
  unfold folL
  rw [List.range_succ, List.map_append, List.filter_append]
  congr 1
  cases h : folB e 0 i k <;> simp [h]
theorem folL_len (e : E) (i : Int) (n : Nat) : (folL e i n).length ≤ n := by
  unfold folL
  exact Nat.le_trans (List.length_filter_le _ _) (by simp)
/-- what Follow returns of an expression -/
def folR (e : E) (i : Int) : List Int := if 0 ≤ i ∧ i < nset e then folL e i (nset e) else []

set_option maxHeartbeats 1000000 in
theorem ref10_Follow_any (v : Value) (l : List Rx) (e : E) (i : Int) (w : World) (hv : RdX w v l) (he : WfX l e) :
    Calls Try.prog 21 #[v, .int .i64 i] w fun e' w' => ∃ v', e' = .returned v' ∧ OwI w' w.heap.size v' (folR e i) ∧ Below w.heap.size w w' := by
  obtain ⟨ad, c, rfl⟩ := hv.shape
  have hE := OwI_empty w
  have hB : Below w.heap.size w (w.alloc (.cells #[] 3)) := (Below.refl _ _).alloc (Nat.le_refl _) _
  have hlen := he.1
  have hns : (setsL l).length = nset e := by rw [setsL_of he, setsT_len]
  have hnn : nset e ≤ l.length := he.at.nset_le
  have Hns := Lib.hid hns; clear hns
  go_enter Try.func21, Try.ntmps21
  go_wp2_with fail
  refine (ref10_Sets_any _ l _ (hv.below hB)).mono ?_
  rintro e1 w1 ⟨v1, rfl, hown1, hb1⟩
  obtain ⟨asl, cs, hvs⟩ := hown1.shape
  rw [Hns.out] at hvs
  subst hvs
  have hE1 : OwI w1 w.heap.size (.slice (some ⟨w.heap.size, 0, none⟩) 0 0) [] := hE.below hb1 (Nat.le_refl _)
  have hB1 : Below w.heap.size w w1 := hB.trans (hb1.mono hB.size)
  clear hown1 hE hB hb1
  go_wp2_with fail
  by_cases hi : 0 ≤ i ∧ i < nset e
  · have ef : folR e i = folL e i (nset e) := by unfold folR; rw [if_pos hi]
    have Hef := Lib.hid ef; clear ef
    obtain ⟨hi1, hi2⟩ := hi
    go_loopw [5, 7] (fun v j wr => ∃ k : Nat, k ≤ nset e ∧ j = .int .i64 k ∧ OwI wr w.heap.size v (folL e i k) ∧ Below w.heap.size w wr) (fun _ j _ => nset e - (intOf j).toNat)
    case atStart => exact ⟨0, by omega, rfl, hE1, hB1⟩
    case round =>
      clear hE1 hB1
      obtain ⟨k, hk, rfl, hown, hb⟩ := hrel
      have hsz := hb.size
      by_cases hlt : k < nset e
      · have hll : (folL e i k).length ≤ 10000000 := by have := folL_len e i k; omega
        have Hs := Lib.hid (folL_succ e i k)
        go_wp2_with fail
        refine (follows_any _ l e i k _ (hv.below hb) he).mono ?_
        rintro e2 w2 ⟨he2, hb2⟩
        have hown2 := hown.below hb2 (Nat.le_refl _)
        have hB2 := hb.trans (hb2.mono hb.size)
        have hsz2 := hB2.size
        clear hown hb hb2
        cases hf : folB e 0 i k
        · rw [hf] at he2
          subst he2
          have Hn : Hid (folL e i (k + 1) = folL e i k) := Lib.hid (by rw [Hs.out, hf]; simp)
          clear hf Hs
          go_wp2_with fail
          go_roundw
          case rel => exact ⟨k + 1, by omega, by go_num, by rw [Hn.out]; exact hown2, hB2⟩
          case measure => simp [intOf]; omega
        · rw [hf] at he2
          subst he2
          have Hn : Hid (folL e i (k + 1) = folL e i k ++ [(k : Int)]) := Lib.hid (by rw [Hs.out, hf]; simp)
          clear hf Hs
          go_wp2_with (at_builtin; refine wpList_append_I rfl _ _ rfl w.heap.size _ _ rfl hown2 _ rfl hll hsz2 ?_; intro v' w3 hown3 hb3; (have Hb := Lib.hid (hB2.trans hb3)); (have Hown := Lib.hid hown3); clear hown2 hown3 hB2 hb3)
          go_roundw
          case rel => exact ⟨k + 1, by omega, by go_num, by rw [Hn.out]; exact Hown.out, Hb.out⟩
          case measure => simp [intOf]; omega
      · obtain rfl : k = nset e := by omega
        go_wp2_with fail
        go_ret
        exact ⟨_, rfl, by rw [Hef.out]; exact hown, hb⟩
  · have ef : folR e i = [] := by unfold folR; rw [if_neg hi]
    have Hef := Lib.hid ef; clear ef
    go_loop [5, 7] (fun v j => v = .slice (some ⟨w.heap.size, 0, none⟩) 0 0 ∧ ∃ k : Nat, k ≤ nset e ∧ j = .int .i64 k) (fun _ j => nset e - (intOf j).toNat)
    case atStart => exact ⟨rfl, 0, by omega, rfl⟩
    case round =>
      obtain ⟨rfl, k, hk, rfl⟩ := hrel
      by_cases hlt : k < nset e
      · rcases Int.lt_or_le i 0 with h0 | h0
        · clear hi
          go_wp2_with fail
          go_round
          case rel => exact ⟨rfl, k + 1, by omega, by go_num⟩
          case measure => simp [intOf]; omega
        · have hi2 : ¬ i < (nset e : Int) := fun h => hi ⟨h0, h⟩
          clear hi
          go_wp2_with fail
          go_round
          case rel => exact ⟨rfl, k + 1, by omega, by go_num⟩
          case measure => simp [intOf]; omega
      · clear hi
        go_wp2_with fail
        go_ret
        exact ⟨_, rfl, by rw [Hef.out]; exact hE1, hB1⟩
end Go.Proofs.Ytficeeaaaijgcaa

/-
  The package spot: what its functions tell of an expression; the reference's functions over pure values.
-/
namespace Go.Proofs.Ytficeeaaaijgcaa
open Go Go.RowKit L
set_option linter.unusedVariables false
set_option linter.unusedSimpArgs false

theorem L.PCallOwn.roK {P : Program} {f : FuncId} {qs : List PV} {t : TypeId} {k : Nat} {R : Nat → List Value → Prop} (h : PCallOwn P f qs t k R) (xs : List PV) (hR : ∀ n us, R n us → n = xs.length ∧ us.map PV.u = xs.flatMap PV.cells) (hc : ∀ y ∈ xs, y.cells.length = k) (hk : 0 < k) (hnp : ∀ y ∈ xs, NoP y) : PCall P f qs (· = .sl k xs) := fun Z w vs hz ha =>
  (h w vs ⟨ha.1, fun i p v h1 h2 => (ha.2 i p v h1 h2).mono (fun b hb hlt => ⟨fun hq => (pz_empty.1 hq).elim, hlt, fun _ => rfl⟩) (fun _ => Nat.le_refl _) (fun id ver _ h1 h2 => ⟨h1, h2, rfl⟩)⟩).mono fun e w' ⟨v, n, us, h1, h2, ho, h4, hb⟩ => by
    obtain ⟨rfl, hus⟩ := hR n us h2
    refine ⟨v, _, h1, rfl, .sl _ _ hnp, ?_, hb⟩
    · rcases ho.2 with ⟨e, h0⟩ | ⟨g, cap, cur, e, hg, hh, hcap, _, _, htake⟩
      · have : xs = [] := List.eq_nil_of_length_eq_zero h0
        subst this
        rw [e]
        exact .nil _ _ _
      · rw [e]
        have := Rp.sl (Z := Z) (H := PHeap.empty) (V := V0) (w := w') k xs g 0 cap (fun i => (us[i]?).getD undef) hc (by simpa using hcap) (fun hq => by have := hz g (pz_empty.1 hq); omega) (Array.getElem?_eq_some_iff.1 hh).1 (fun i p hi => by
          rw [← hus, List.getElem?_map] at hi
          cases hu : us[i]? with
          | none => rw [hu] at hi; cases hi
          | some u =>
            have := ho.cells (g := g) (by rw [e]; rfl) i u hu
            rw [addr_add] at this
            simpa using this) (fun i p hi => by
          rw [← hus, List.getElem?_map] at hi
          cases hu : us[i]? with
          | none => rw [hu] at hi; cases hi
          | some u => rw [hu] at hi; cases hi; exact .u _)
        exact this

theorem owI_pcall {f : FuncId} {qs : List PV} {L : List Int} (h : PCallOwn Try.prog f qs 3 1 (fun n us => n = L.length ∧ us = L.map (.int .i64))) : PCall Try.prog f qs (· = slI L) :=
  h.ro.weak fun p ⟨us, ⟨_, h⟩, hp⟩ => by rw [hp, h, List.map_map]; rfl

theorem refFirst_good (l : List Rx) (e : E) (he : WfX l e) : PCall Try.prog 17 [slX l] (· = slI (firstT e 0)) := owI_pcall fun w vs h => by
  obtain ⟨v, rfl, h1⟩ := rpl1 h
  exact (ref10_First_any v l e w (rdX_of h1) he).mono fun e' w' ⟨v', he, ho, hb⟩ => ⟨v', _, _, he, ⟨rfl, rfl⟩, ho, fun u hu => by obtain ⟨z, _, rfl⟩ := List.mem_map.1 hu; rfl, hb⟩
theorem refLast_good (l : List Rx) (e : E) (he : WfX l e) : PCall Try.prog 19 [slX l] (· = slI (lastT e 0)) := owI_pcall fun w vs h => by
  obtain ⟨v, rfl, h1⟩ := rpl1 h
  exact (ref10_Last_any v l e w (rdX_of h1) he).mono fun e' w' ⟨v', he, ho, hb⟩ => ⟨v', _, _, he, ⟨rfl, rfl⟩, ho, fun u hu => by obtain ⟨z, _, rfl⟩ := List.mem_map.1 hu; rfl, hb⟩
theorem refFree_good (l : List Rx) (e : E) (he : WfX l e) : PCall Try.prog 23 [slX l] (· = B (freeT e)) := fun Z w vs hz h => by
  obtain ⟨v, rfl, h1⟩ := rpl1 h
  exact (ref10_Free_any v l e w (rdX_of h1) he).mono fun e' w' ⟨he, hw⟩ => ⟨_, _, he, rfl, .u _, .u _, by subst hw; exact Below.refl _ _⟩
theorem refFollow_good (l : List Rx) (e : E) (i : Int) (he : WfX l e) : PCall Try.prog 21 [slX l, I i] (· = slI (folR e i)) := owI_pcall fun w vs h => by
  obtain ⟨v, u, rfl, h1, h2⟩ := rpl2 h
  rw [rpu h2]
  exact (ref10_Follow_any v l e i w (rdX_of h1) he).mono fun e' w' ⟨v', he, ho, hb⟩ => ⟨v', _, _, he, ⟨rfl, rfl⟩, ho, fun u hu => by obtain ⟨z, _, rfl⟩ := List.mem_map.1 hu; rfl, hb⟩
theorem refSets_ok (l : List Rx) : PCall Try.prog 14 [slX l] (· = slS (setsL l)) :=
  L.PCallOwn.roK (t := 28) (R := fun n us => n = (setsL l).length ∧ us = (setsL l).flatMap setCells) (fun w vs h => by
    obtain ⟨v, rfl, h1⟩ := rpl1 h
    exact (ref10_Sets_any v l w (rdX_of h1)).mono fun e' w' ⟨v', he, ho, hb⟩ => ⟨v', _, _, he, ⟨rfl, rfl⟩, ho, fun u hu => by
      obtain ⟨z, _, hz⟩ := List.mem_flatMap.1 hu
      simp [setCells] at hz
      rcases hz with rfl | rfl | rfl | rfl <;> rfl, hb⟩) ((setsL l).map encS) (fun n us ⟨h1, h2⟩ => ⟨by simp [h1], by
        rw [h2, setCs_map]
        generalize setsL l = m
        induction m with
        | nil => rfl
        | cons x m ih => simp only [List.flatMap_cons, List.map_append, setCs] at *; rw [ih]; rfl⟩) (fun y hy => by obtain ⟨z, _, rfl⟩ := List.mem_map.1 hy; rfl) (by decide) (fun y hy => by
          obtain ⟨z, _, rfl⟩ := List.mem_map.1 hy
          exact .agg _ (fun c hc => by simp at hc; rcases hc with rfl | rfl | rfl | rfl <;> exact .u _))

/-! what spot tells -/
theorem sp_of {l : List Rx} {e : E} (he : WfX l e) : spSets l = setsT e ∧ spFirst l = firstT e 0 ∧ spLast l = lastT e 0 ∧ spFree l = freeT e ∧ ∀ i, spFollow l i = folR e i := by
  have hc := he.check
  obtain ⟨_, rfl⟩ := he
  obtain ⟨fol, hr, hf⟩ := runS_post e
  refine ⟨?_, ?_, ?_, ?_, fun i => ?_⟩
  · unfold spSets; rw [if_pos hc, hr]
  · unfold spFirst topS; rw [if_pos hc, hr]; rfl
  · unfold spLast topS; rw [if_pos hc, hr]; rfl
  · unfold spFree topS; rw [if_pos hc, hr]; rfl
  · have htn : (topS (post e)).n = nset e := by unfold topS; rw [hr]; rfl
    unfold folR
    by_cases hi : 0 ≤ i ∧ i < nset e
    · rw [if_pos hi]
      unfold spFollow
      rw [if_pos ⟨hc, hi.1, by rw [htn]; exact hi.2⟩, hr]
      obtain ⟨u, rfl⟩ : ∃ u : Nat, i = (u : Int) := ⟨i.toNat, by omega⟩
      have hu : u < fol.length := by rw [hf.len]; omega
      obtain ⟨r, m⟩ := hf.new u _ (by omega) (List.getElem?_eq_getElem hu)
      simp only [Int.toNat_natCast, List.getElem?_eq_getElem hu, Option.getD_some]
      refine rise_ext r ?_ fun j => ?_
      · unfold folL
        refine List.Pairwise.sublist List.filter_sublist ?_
        rw [List.pairwise_map]
        exact List.pairwise_lt_range.imp fun h => by omega
      · rw [m]
        simp only [folL, List.mem_filter, List.mem_map, List.mem_range]
        constructor
        · intro h
          have := (fol_in e _ _ _ h).2
          exact ⟨⟨j.toNat, by omega, by omega⟩, (folB_iff e _ _ _).2 h⟩
        · rintro ⟨_, h⟩
          exact (folB_iff e _ _ _).1 h
    · rw [if_neg hi]; unfold spFollow; rw [if_neg (fun h => hi ⟨h.2.1, by rw [← htn]; exact h.2.2⟩)]
end Go.Proofs.Ytficeeaaaijgcaa

/-
  Chapter 10's reference over pure values, whatever the steps.
-/
namespace Go.Proofs.Ytficeeaaaijgcaa
open Go Go.RowKit L
set_option linter.unusedVariables false
set_option linter.unusedSimpArgs false

set_option maxRecDepth 20000 in
theorem refFirst_ok (l : List Rx) : PCall Try.prog 17 [slX l] (· = slI (spFirst l)) := by
  by_cases hl : checkL l = 0
  · obtain ⟨e, he⟩ := wfx_of l hl
    have h := sp_of he
    first | rw [h.2.1] | skip
    first | rw [h.2.2.1] | skip
    exact refFirst_good l e he
  · rw [show spFirst l = [] by unfold spFirst; rw [if_neg hl]]
    refine PCall.intro' Try.func17 rfl Try.ntmps17 (by simp) fun W => ?_
    refine PC.seq fun K hK => ?_
    refine PC.region ?_
    repeat (refine PL.k rfl fun KK hKK => ?_; simp [go_sem, stepK]; refine hKK _ ?_; clear hKK KK)
    refine PL.done hK ?_; clear hK
    refine PC.seq fun K hK => ?_
    refine PC.seq fun K2 hK2 => ?_
    refine PC.region ?_
    repeat (refine PL.k rfl fun KK hKK => ?_; simp [go_sem, stepK]; refine hKK _ ?_; clear hKK KK)
    refine PL.call (qs := [slX l]) rfl rfl (by kernel_rfl) (ref7Check_ok l) (by simp [go_sem]) (by simp [go_sem]) ?_ ?_
    · simp [go_sem, slX_noP, View.noP]
    repeat (refine PL.k rfl fun KK hKK => ?_; simp [go_sem, stepK, hl]; refine hKK _ ?_; clear hKK KK)
    refine PL.done hK2 ?_; clear hK2
    refine PC.condT (by simp [go_sem, hl]) ?_
    refine PC.seq fun K hK => ?_
    refine PC.region ?_
    refine PL.buildSliceR (d := 6) rfl rfl rfl (by simp) selem_30 rfl (by omega) (ips := []) (by simp [go_sem]) (by simp [litOk]) (ps := []) rfl ?_
    repeat (refine PL.k rfl fun KK hKK => ?_; simp [go_sem, stepK]; refine hKK _ ?_; clear hKK KK)
    refine PL.done hK ?_; clear hK
    refine PC.ret ?_
    refine fin (.inr rfl) ?_ (noP_slI _)
    simp [resP, resP1, Try.results17, go_sem, slI]

set_option maxRecDepth 20000 in
theorem refLast_ok (l : List Rx) : PCall Try.prog 19 [slX l] (· = slI (spLast l)) := by
  by_cases hl : checkL l = 0
  · obtain ⟨e, he⟩ := wfx_of l hl
    have h := sp_of he
    first | rw [h.2.1] | skip
    first | rw [h.2.2.1] | skip
    exact refLast_good l e he
  · rw [show spLast l = [] by unfold spLast; rw [if_neg hl]]
    refine PCall.intro' Try.func19 rfl Try.ntmps19 (by simp) fun W => ?_
    refine PC.seq fun K hK => ?_
    refine PC.region ?_
    repeat (refine PL.k rfl fun KK hKK => ?_; simp [go_sem, stepK]; refine hKK _ ?_; clear hKK KK)
    refine PL.done hK ?_; clear hK
    refine PC.seq fun K hK => ?_
    refine PC.seq fun K2 hK2 => ?_
    refine PC.region ?_
    repeat (refine PL.k rfl fun KK hKK => ?_; simp [go_sem, stepK]; refine hKK _ ?_; clear hKK KK)
    refine PL.call (qs := [slX l]) rfl rfl (by kernel_rfl) (ref7Check_ok l) (by simp [go_sem]) (by simp [go_sem]) ?_ ?_
    · simp [go_sem, slX_noP, View.noP]
    repeat (refine PL.k rfl fun KK hKK => ?_; simp [go_sem, stepK, hl]; refine hKK _ ?_; clear hKK KK)
    refine PL.done hK2 ?_; clear hK2
    refine PC.condT (by simp [go_sem, hl]) ?_
    refine PC.seq fun K hK => ?_
    refine PC.region ?_
    refine PL.buildSliceR (d := 6) rfl rfl rfl (by simp) selem_30 rfl (by omega) (ips := []) (by simp [go_sem]) (by simp [litOk]) (ps := []) rfl ?_
    repeat (refine PL.k rfl fun KK hKK => ?_; simp [go_sem, stepK]; refine hKK _ ?_; clear hKK KK)
    refine PL.done hK ?_; clear hK
    refine PC.ret ?_
    refine fin (.inr rfl) ?_ (noP_slI _)
    simp [resP, resP1, Try.results19, go_sem, slI]

set_option maxRecDepth 20000 in
theorem refFree_ok (l : List Rx) : PCall Try.prog 23 [slX l] (· = B (spFree l)) := by
  by_cases hl : checkL l = 0
  · obtain ⟨e, he⟩ := wfx_of l hl
    rw [(sp_of he).2.2.2.1]
    exact refFree_good l e he
  · rw [show spFree l = false by unfold spFree; rw [if_neg hl]]
    refine PCall.intro' Try.func23 rfl Try.ntmps23 (by simp) fun W => ?_
    refine PC.seq fun K hK => ?_
    refine PC.region ?_
    repeat (refine PL.k rfl fun KK hKK => ?_; simp [go_sem, stepK]; refine hKK _ ?_; clear hKK KK)
    refine PL.done hK ?_; clear hK
    refine PC.seq fun K hK => ?_
    refine PC.region ?_
    repeat (refine PL.k rfl fun KK hKK => ?_; simp [go_sem, stepK]; refine hKK _ ?_; clear hKK KK)
    refine PL.call (qs := [slX l]) rfl rfl (by kernel_rfl) (ref7Check_ok l) (by simp [go_sem]) (by simp [go_sem]) ?_ ?_
    · simp [go_sem, slX_noP, View.noP]
    repeat (refine PL.k rfl fun KK hKK => ?_; simp [go_sem, stepK, hl]; refine hKK _ ?_; clear hKK KK)
    repeat (refine PL.g rfl rfl fun KK hKK => ?_; simp (disch := omega) [go_sem, L.stepG, hl]; refine hKK _ ?_; clear hKK KK)
    repeat (refine PL.k rfl fun KK hKK => ?_; simp [go_sem, stepK, hl]; refine hKK _ ?_; clear hKK KK)
    refine PL.done hK ?_; clear hK
    refine PC.ret ?_
    refine fin (.inr rfl) ?_ (.u _)
    simp [resP, resP1, Try.results23, go_sem]

set_option maxRecDepth 20000 in
theorem refFollow_ok (l : List Rx) (i : Int) : PCall Try.prog 21 [slX l, I i] (· = slI (spFollow l i)) := by
  by_cases hl : checkL l = 0
  · obtain ⟨e, he⟩ := wfx_of l hl
    rw [(sp_of he).2.2.2.2 i]
    exact refFollow_good l e i he
  · rw [show spFollow l i = [] by unfold spFollow; rw [if_neg (fun h => hl h.1)]]
    have hS : setsL l = [] := by unfold setsL; rw [if_neg hl]
    have hS2 := refSets_ok l
    rw [hS] at hS2
    refine PCall.intro' Try.func21 rfl Try.ntmps21 (by simp) fun W => ?_
    refine PC.seq fun K hK => ?_
    refine PC.region ?_
    repeat (refine PL.k rfl fun KK hKK => ?_; simp [go_sem, stepK]; refine hKK _ ?_; clear hKK KK)
    refine PL.done hK ?_; clear hK
    refine PC.seq fun K hK => ?_
    refine PC.region ?_
    refine PL.buildSliceR (d := 8) rfl rfl rfl (by simp) selem_30 rfl (by omega) (ips := []) (by simp [go_sem]) (by simp [litOk]) (ps := []) rfl ?_
    repeat (refine PL.k rfl fun KK hKK => ?_; simp [go_sem, stepK]; refine hKK _ ?_; clear hKK KK)
    refine PL.done hK ?_; clear hK
    refine PC.seq fun K hK => ?_
    refine PC.region ?_
    repeat (refine PL.k rfl fun KK hKK => ?_; simp [go_sem, stepK]; refine hKK _ ?_; clear hKK KK)
    refine PL.callB (qs := [slX l]) rfl rfl (by kernel_rfl) hS2 (by simp [go_sem]) ?_ ?_ ?_
    · simp [go_sem, slX_noP]
    · simp [go_sem, slX_noP, View.noP]
    repeat (refine PL.k rfl fun KK hKK => ?_; simp [go_sem, stepK, slS]; refine hKK _ ?_; clear hKK KK)
    refine PL.done hK ?_; clear hK
    refine PC.seq fun K hK => ?_
    refine PC.seq fun K2 hK2 => ?_
    refine PC.region ?_
    repeat (refine PL.k rfl fun KK hKK => ?_; simp [go_sem, stepK]; refine hKK _ ?_; clear hKK KK)
    refine PL.done hK2 ?_; clear hK2
    refine PC.block ?_
    refine PC.loop (fun m F' H' => F' 5 = .sl 1 [] ∧ F' 6 = I 0 ∧ F' 7 = I 0) (m := 0) ⟨by simp [go_sem], by simp [go_sem, slS], by simp [go_sem]⟩ fun m F' H' hI => ?_
    obtain ⟨f5, f6, f7⟩ := hI
    refine PC.seq fun K2 hK2 => ?_
    refine PC.seq fun K3 hK3 => ?_
    refine PC.region ?_
    repeat (refine PL.k rfl fun KK hKK => ?_; simp [go_sem, stepK, f6, f7]; refine hKK _ ?_; clear hKK KK)
    refine PL.done hK3 ?_; clear hK3
    refine PC.condF (by simp [go_sem]) ?_
    refine PC.exit ?_
    refine hK _ _ ?_
    refine PC.seq fun K hK => ?_
    refine PC.region ?_
    repeat (refine PL.k rfl fun KK hKK => ?_; simp [go_sem, stepK, f5]; refine hKK _ ?_; clear hKK KK)
    refine PL.done hK ?_; clear hK
    refine PC.ret ?_
    refine fin (.inr rfl) ?_ (noP_slI _)
    simp [resP, resP1, Try.results21, go_sem, slI]
end Go.Proofs.Ytficeeaaaijgcaa

/-
  The law SpotTells over pure values.
-/
namespace Go.Proofs.Ytficeeaaaijgcaa
open Go Go.RowKit L
set_option linter.unusedVariables false
set_option linter.unusedSimpArgs false

theorem sameInts_ok (l m : List Int) (hl : l.length ≤ 4000000) (hm : m.length ≤ 4000000) : PCall Try.prog 15 [slI l, slI m] (· = B (decide (l = m))) := fun Z w vs hz h => by
  obtain ⟨v, u, rfl, h1, h2⟩ := rpl2 h
  exact (ref9_SameInts_any v u l m w (rd_of (fun _ => rfl) h1) (rd_of (fun _ => rfl) h2) hl hm).mono fun e w' ⟨he, n, hw⟩ => ⟨_, _, he, rfl, .u _, .u _, by subst hw; exact below_drewN (Below.refl _ _) n⟩

/-- the chapter's example -/
def e0 : E := .cat (.star (.alt (.set 0 8589934592 0 0) (.set 0 17179869184 0 0))) (.set 0 34359738368 0 0)
theorem wf0 : WfX (post e0) e0 := ⟨by decide, rfl⟩
set_option maxRecDepth 100000 in
theorem read_ok : PCall Try.prog 58 [.u (.string { data := #[40, 97, 124, 98, 41, 42, 99] })] (· = .tup [slX (post e0), I 7, I 0]) :=
  funE_sound (P := Try.prog) (more := fun _ _ => none) (fun _ _ _ h => by cases h) mixed (fuel := 100000) (r := .ro (.tup [slX (post e0), I 7, I 0])) (by kernel_rfl)

section
variable {P : Program} {W : Env} {n : Nat} {F : PFrame} {H : PHeap} {o : Oper} {l : List Oper} {ops : Array Oper} {K : PFrame → PHeap → Prop}
/-- a call of a named function that is called just if a guard says so -/
theorem PL.callBg {f : FuncId} {args : Array Operand} {ts : Array TypeId} {qs : List PV} {p0 : PV} {j d : Nat} {want : Bool} (hg : o.guard = some (j, want)) (hj : (ops[j]?).bind (·.dst) = some d) (ho : o.op = .call ⟨.value (.func f), args, ts⟩) (hF : F d = .u (.bool want)) (hf : goBody P f = true) (hc : PCall P f qs (· = p0)) (hd : dstOk n o) (hn : ∀ p ∈ args.toList.map (evP F), NoP p) (hv : ViewL PHeap.empty (args.toList.map (evP F)) qs)
    (h : PL P W n ops l (F.put o.dst p0) H K) : PL P W n ops (o :: l) F H K :=
  PL.peg hg hj hF (PE.callB hd ho (target_func f args ts) hf hv hn hc fun p e => by subst e; exact h)
theorem PL.buildSliceRg {t e : TypeId} {k b len d : Nat} {z : Value} {parts : Array (Nat × Operand)} {ips : List (Nat × PV)} {ps : List PV} {j dj : Nat} {want : Bool} (hg : o.guard = some (j, want)) (hj : (ops[j]?).bind (·.dst) = some dj) (ho : o.op = .buildSlice t len parts) (hF : F dj = .u (.bool want)) (hd : o.dst = some d) (hdn : d < n) (ht : selem P t = some (e, k, b, z)) (hz : z.cells.toList.all Value.oneCell' = true) (hbig : len * k ≤ 16777216)
    (hp : (parts.toList.map fun x => (x.1, evP F x.2)) = ips) (hlit : litOk H k len ips = true) (hc : ips.map (·.2) = ps)
    (h : PL P W n ops l (F.put (some d) (.sl k ps)) H K) : PL P W n ops (o :: l) F H K := by
  subst hp; subst hc
  refine PL.peg hg hj hF (PE.quiet (by intro d' hd'; rw [hd] at hd'; cases hd'; exact hdn) (PQ.buildSlice ho ht hz hbig hlit) ?_)
  rw [hd]
  simpa only [List.map_map, Function.comp_def] using h
end

set_option maxRecDepth 20000 in
set_option maxHeartbeats 1000000 in
theorem knows10_ok : PCall Try.prog 12 [] (· = B true) := by
  have h0 := sp_of wf0
  have s1 : spSets (post e0) = setsT e0 := h0.1
  have s2 : spFirst (post e0) = [0, 1, 2] := h0.2.1.trans (by decide)
  have s3 : spLast (post e0) = [2] := h0.2.2.1.trans (by decide)
  have s4 : spFree (post e0) = false := h0.2.2.2.1.trans (by decide)
  have s5 : spFollow (post e0) 0 = [0, 1, 2] := (h0.2.2.2.2 0).trans (by decide)
  have c1 := Sets_ok (post e0)
  have c2 := First_ok (post e0)
  have c3 := Last_ok (post e0)
  have c4 := Free_ok (post e0)
  have c5 := Follow_ok (post e0) 0
  rw [s1] at c1; rw [s2] at c2; rw [s3] at c3; rw [s4] at c4; rw [s5] at c5
  have nX := slX_noP (post e0)
  refine PCall.intro' Try.func12 rfl Try.ntmps12 (by simp) fun W => ?_
  refine PC.seq fun K hK => ?_
  refine PC.region ?_
  repeat (refine PL.k rfl fun KK hKK => ?_; simp [go_sem, stepK]; refine hKK _ ?_; clear hKK KK)
  refine PL.done hK ?_; clear hK
  refine PC.seq fun K hK => ?_
  refine PC.region ?_
  refine PL.callB (qs := [.u (.string { data := #[40, 97, 124, 98, 41, 42, 99] })]) rfl rfl (by kernel_rfl) read_ok (by simp [go_sem]) ?_ ?_ ?_
  · simp [go_sem]
  · simp [go_sem]
  generalize hl : post e0 = l0 at *
  repeat (refine PL.k rfl fun KK hKK => ?_; simp [go_sem, stepK]; refine hKK _ ?_; clear hKK KK)
  refine PL.done hK ?_; clear hK
  refine PC.seq fun K hK => ?_
  refine PC.region ?_
  repeat (refine PL.k rfl fun KK hKK => ?_; simp [go_sem, stepK]; refine hKK _ ?_; clear hKK KK)
  refine PL.callB (qs := [slX l0]) rfl rfl (by kernel_rfl) c1 (by simp [go_sem]) ?_ ?_ ?_
  · simp [go_sem, nX]
  · simp [go_sem, nX]
  have hlen : ∀ H, lenP Try.prog H 24 (slS (setsT e0)) = some (I 3) := fun H => by simp [slS, go_sem, e0, setsT]
  repeat (refine PL.k rfl fun KK hKK => ?_; simp [go_sem, stepK, hlen]; refine hKK _ ?_; clear hKK KK)
  (refine PL.g rfl rfl fun KK hKK => ?_; simp (disch := omega) [go_sem, L.stepG]; refine hKK _ ?_; clear hKK KK)
  refine PL.callBg (qs := [slX l0]) rfl rfl rfl (by simp [go_sem]) (by kernel_rfl) c2 (by simp [go_sem]) ?_ ?_ ?_
  · simp [go_sem, nX]
  · simp [go_sem, nX]
  refine PL.buildSliceRg (d := 16) rfl rfl rfl (by simp [go_sem]) rfl (by simp) selem_30 rfl (by omega) (ips := [(0, I 0), (1, I 1), (2, I 2)]) (by simp [go_sem]) (by simp [litOk, go_sem, PV.cells, List.range, List.range.loop]) (ps := [I 0, I 1, I 2]) rfl ?_
  refine PL.callBg (qs := [slI [0, 1, 2], slI [0, 1, 2]]) rfl rfl rfl (by simp [go_sem]) (by kernel_rfl) (sameInts_ok _ _ (by simp) (by simp)) (by simp [go_sem]) ?_ ?_ ?_
  · simp [go_sem, noP_slI]
  · simp [go_sem, slI]
  repeat (refine PL.k rfl fun KK hKK => ?_; simp [go_sem, stepK]; refine hKK _ ?_; clear hKK KK)
  (refine PL.g rfl rfl fun KK hKK => ?_; simp (disch := omega) [go_sem, L.stepG]; refine hKK _ ?_; clear hKK KK)
  refine PL.callBg (qs := [slX l0]) rfl rfl rfl (by simp [go_sem]) (by kernel_rfl) c3 (by simp [go_sem]) ?_ ?_ ?_
  · simp [go_sem, nX]
  · simp [go_sem, nX]
  refine PL.buildSliceRg (d := 22) rfl rfl rfl (by simp [go_sem]) rfl (by simp) selem_30 rfl (by omega) (ips := [(0, I 2)]) (by simp [go_sem]) (by simp [litOk, go_sem, PV.cells, List.range, List.range.loop]) (ps := [I 2]) rfl ?_
  refine PL.callBg (qs := [slI [2], slI [2]]) rfl rfl rfl (by simp [go_sem]) (by kernel_rfl) (sameInts_ok _ _ (by simp) (by simp)) (by simp [go_sem]) ?_ ?_ ?_
  · simp [go_sem, noP_slI]
  · simp [go_sem, slI]
  repeat (refine PL.k rfl fun KK hKK => ?_; simp [go_sem, stepK]; refine hKK _ ?_; clear hKK KK)
  (refine PL.g rfl rfl fun KK hKK => ?_; simp (disch := omega) [go_sem, L.stepG]; refine hKK _ ?_; clear hKK KK)
  refine PL.callBg (qs := [slX l0, I 0]) rfl rfl rfl (by simp [go_sem]) (by kernel_rfl) c5 (by simp [go_sem]) ?_ ?_ ?_
  · simp [go_sem, nX]
  · simp [go_sem, nX]
  refine PL.buildSliceRg (d := 28) rfl rfl rfl (by simp [go_sem]) rfl (by simp) selem_30 rfl (by omega) (ips := [(0, I 0), (1, I 1), (2, I 2)]) (by simp [go_sem]) (by simp [litOk, go_sem, PV.cells, List.range, List.range.loop]) (ps := [I 0, I 1, I 2]) rfl ?_
  refine PL.callBg (qs := [slI [0, 1, 2], slI [0, 1, 2]]) rfl rfl rfl (by simp [go_sem]) (by kernel_rfl) (sameInts_ok _ _ (by simp) (by simp)) (by simp [go_sem]) ?_ ?_ ?_
  · simp [go_sem, noP_slI]
  · simp [go_sem, slI]
  repeat (refine PL.k rfl fun KK hKK => ?_; simp [go_sem, stepK]; refine hKK _ ?_; clear hKK KK)
  (refine PL.g rfl rfl fun KK hKK => ?_; simp (disch := omega) [go_sem, L.stepG]; refine hKK _ ?_; clear hKK KK)
  refine PL.callBg (qs := [slX l0]) rfl rfl rfl (by simp [go_sem]) (by kernel_rfl) c4 (by simp [go_sem]) ?_ ?_ ?_
  · simp [go_sem, nX]
  · simp [go_sem, nX]
  (refine PL.g rfl rfl fun KK hKK => ?_; simp (disch := omega) [go_sem, L.stepG]; refine hKK _ ?_; clear hKK KK)
  repeat (refine PL.k rfl fun KK hKK => ?_; simp [go_sem, stepK]; refine hKK _ ?_; clear hKK KK)
  refine PL.done hK ?_; clear hK
  refine PC.ret ?_
  refine fin (.inr rfl) ?_ (.u _)
  simp [resP, resP1, Try.results12, go_sem]
end Go.Proofs.Ytficeeaaaijgcaa

/-
  The law SpotTells over pure values: true, whatever the steps.
-/
namespace Go.Proofs.Ytficeeaaaijgcaa
open Go Go.RowKit L
set_option linter.unusedVariables false
set_option linter.unusedSimpArgs false

theorem sets_same (l : List Rx) : setsL l = spSets l := by
  by_cases hl : checkL l = 0
  · obtain ⟨e, he⟩ := wfx_of l hl
    rw [(sp_of he).1, setsL_of he]
  · unfold setsL spSets; rw [if_neg hl, if_neg hl]

theorem sp_len (l : List Rx) : (spSets l).length ≤ 1000 ∧ (spFirst l).length ≤ 1000 ∧ (spLast l).length ≤ 1000 ∧ ∀ i, (spFollow l i).length ≤ 1000 := by
  by_cases hl : checkL l = 0
  · obtain ⟨e, he⟩ := wfx_of l hl
    have h := sp_of he
    have hn : nset e ≤ 512 := by have := nset_le e; have h2 := he.1; obtain ⟨h3, h4⟩ := he; rw [← h4] at this; omega
    have h1 := firstT_len e 0
    have h2 := lastT_len e 0
    rw [h.1, h.2.1, h.2.2.1, setsT_len]
    refine ⟨by omega, by omega, by omega, fun i => ?_⟩
    rw [h.2.2.2.2]
    unfold folR
    split
    · have := folL_len e i (nset e); omega
    · simp
  · unfold spSets spFirst spLast spFollow
    rw [if_neg hl, if_neg hl, if_neg hl]
    refine ⟨by simp, by simp, by simp, fun i => by rw [if_neg (fun h => hl h.1)]; simp⟩

theorem PQ.neqSet {W : Env} {F : PFrame} {H : PHeap} {o : Oper} {x y : Operand} {tt : TypeId} (a b : Rx) (ho : o.op = .binOp .neq 28 x y tt) (hx : evP F x = encS a) (hy : evP F y = encS b) : PQ Try.prog W o F H (B (!setEq a.s0 a.s1 a.s2 a.s3 b.s0 b.s1 b.s2 b.s3)) :=
  PQ.of_run fun V ac w hr hh => ⟨.bool (!setEq a.s0 a.s1 a.s2 a.s3 b.s0 b.s1 b.s2 b.s3), by
    have h1 := (hh x (by rw [ho]; simp [Op.operands])).val2 (u := .agg #[.int .u64 a.s0, .int .u64 a.s1, .int .u64 a.s2, .int .u64 a.s3]) (by rw [hx]; rfl)
    have h2 := (hh y (by rw [ho]; simp [Op.operands])).val2 (u := .agg #[.int .u64 b.s0, .int .u64 b.s1, .int .u64 b.s2, .int .u64 b.s3]) (by rw [hy]; rfl)
    have hg := run_eqGuard_agg (P := Try.prog) w .neq 28 x y #[.int .u64 a.s0, .int .u64 a.s1, .int .u64 a.s2, .int .u64 a.s3] #[.int .u64 b.s0, .int .u64 b.s1, .int .u64 b.s2, .int .u64 b.s3] (by kernel_rfl)
    have he : (Op.equal 28 (.agg #[.int .u64 a.s0, .int .u64 a.s1, .int .u64 a.s2, .int .u64 a.s3]) (.agg #[.int .u64 b.s0, .int .u64 b.s1, .int .u64 b.s2, .int .u64 b.s3])).run Try.prog w = _ := run_eqSet' w a.s0 a.s1 a.s2 a.s3 b.s0 b.s1 b.s2 b.s3
    simp only [execOp, ho, h1, h2]
    simp [Sem.run_bind, hg, binOp, he], .u _⟩

set_option maxRecDepth 20000 in
set_option maxHeartbeats 1000000 in
theorem SpotTells_ok (l : List Rx) (i : Int) : PCall Try.prog 3 [slX l, I i] (· = B true) := by
  have nX := slX_noP l
  have c2 := refSets_ok l
  rw [sets_same] at c2
  have hlens := sp_len l
  refine PCall.intro' Try.func3 rfl Try.ntmps3 (by simp) fun W => ?_
  refine PC.seq fun K hK => ?_
  refine PC.region ?_
  repeat (refine PL.k rfl fun KK hKK => ?_; simp [go_sem, stepK]; refine hKK _ ?_; clear hKK KK)
  refine PL.done hK ?_; clear hK
  refine PC.seq fun K hK => ?_
  refine PC.seq fun K2 hK2 => ?_
  refine PC.region ?_
  have hlenX : ∀ H, lenP Try.prog H 22 (slX l) = some (I l.length) := fun H => by simp [slX, go_sem]
  repeat (refine PL.k rfl fun KK hKK => ?_; simp [go_sem, stepK, hlenX]; refine hKK _ ?_; clear hKK KK)
  refine PL.done hK2 ?_; clear hK2
  by_cases hb : (60 : Int) < l.length
  · refine PC.condT (by simp [go_sem, hb]) ?_
    refine PC.seq fun K hK => ?_
    refine PC.region ?_
    refine PL.call (qs := []) rfl rfl (by kernel_rfl) knows10_ok (by simp [go_sem]) (by simp [go_sem]) (by simp [go_sem]) ?_
    repeat (refine PL.k rfl fun KK hKK => ?_; simp [go_sem, stepK]; refine hKK _ ?_; clear hKK KK)
    refine PL.done hK ?_; clear hK
    refine PC.ret ?_
    refine fin (.inr rfl) ?_ (.u _)
    simp [resP, resP1, Try.results3, go_sem]
  · refine PC.condF (by simp [go_sem, (show (l.length : Int) ≤ 60 by omega)]) ?_
    refine PC.skip (hK _ _ ?_); clear hK
    refine PC.seq fun K hK => ?_
    refine PC.region ?_
    repeat (refine PL.k rfl fun KK hKK => ?_; simp [go_sem, stepK]; refine hKK _ ?_; clear hKK KK)
    refine PL.callB (qs := [slX l]) rfl rfl (by kernel_rfl) (Sets_ok l) (by simp [go_sem]) ?_ ?_ ?_
    · simp [go_sem, nX]
    · simp [go_sem, nX]
    repeat (refine PL.k rfl fun KK hKK => ?_; simp [go_sem, stepK]; refine hKK _ ?_; clear hKK KK)
    refine PL.callB (qs := [slX l]) rfl rfl (by kernel_rfl) c2 (by simp [go_sem]) ?_ ?_ ?_
    · simp [go_sem, nX]
    · simp [go_sem, nX]
    repeat (refine PL.k rfl fun KK hKK => ?_; simp [go_sem, stepK]; refine hKK _ ?_; clear hKK KK)
    refine PL.done hK ?_; clear hK
    obtain ⟨A, hA⟩ : ∃ A, spSets l = A := ⟨_, rfl⟩
    rw [hA]
    rw [hA] at hlens
    have hlenS : ∀ H, lenP Try.prog H 24 (slS A) = some (I A.length) := fun H => by simp [slS, go_sem]
    refine PC.seq fun K hK => ?_
    refine PC.seq fun K2 hK2 => ?_
    refine PC.region ?_
    repeat (refine PL.k rfl fun KK hKK => ?_; simp [go_sem, stepK, hlenS]; refine hKK _ ?_; clear hKK KK)
    refine PL.done hK2 ?_; clear hK2
    refine PC.condF (by simp [go_sem]) ?_
    refine PC.skip (hK _ _ ?_); clear hK
    refine PC.seq fun K hK => ?_
    refine PC.seq fun K2 hK2 => ?_
    refine PC.region ?_
    repeat (refine PL.k rfl fun KK hKK => ?_; simp [go_sem, stepK]; refine hKK _ ?_; clear hKK KK)
    refine PL.done hK2 ?_; clear hK2
    refine PC.block ?_
    refine PC.loop (fun m F H' => ∃ k : Nat, k ≤ A.length ∧ m = A.length - k ∧ F 0 = slX l ∧ F 1 = I i ∧ F 5 = slS A ∧ F 6 = slS A ∧ F 7 = I k) (m := A.length) ⟨0, by simp [go_sem]⟩ fun m F H' hI => ?_
    obtain ⟨k, hk, hm, f0, f1, f5, f6, f7⟩ := hI
    by_cases hlt : k < A.length
    · have hAd : ∀ (t : Nat) (x y : Operand), binP Try.prog .add t x y (I (k : Int)) (I 1) = some (I ((k : Int) + 1)) := fun t x y => binP_add (by omega) (by omega)
      refine PC.seq fun K2 hK2 => ?_
      refine PC.seq fun K3 hK3 => ?_
      refine PC.region ?_
      repeat (refine PL.k rfl fun KK hKK => ?_; simp [go_sem, stepK, f5, f7, hlenS]; refine hKK _ ?_; clear hKK KK)
      refine PL.done hK3 ?_; clear hK3
      refine PC.condT (by simp [go_sem, hlt]) ?_
      refine PC.skip (hK2 _ _ ?_); clear hK2
      refine PC.seq fun K2 hK2 => ?_
      refine PC.block ?_
      refine PC.seq fun K3 hK3 => ?_
      refine PC.regionQ mixed (by kernel_rfl) ?_
      have f5' : F 5 = .sl 4 (A.map encS) := f5
      have f6' : F 6 = .sl 4 (A.map encS) := f6
      repeat (refine QF.k rfl fun KK hKK => ?_; simp [go_sem, stepK, f5', f6', f7, hlt]; refine hKK _ ?_; clear hKK KK)
      refine QF.call rfl (by simp [dstOk]) (PQ.neqSet A[k] A[k] rfl (by simp [go_sem]; rfl) (by simp [go_sem]; rfl)) ?_
      refine QF.done hK3 ?_; clear hK3
      refine PC.condF (by simp [go_sem, setEq]) ?_
      refine PC.skip (hK2 _ _ ?_); clear hK2
      refine PC.region ?_
      repeat (refine PL.k rfl fun KK hKK => ?_; simp [go_sem, stepK, f7, hAd]; refine hKK _ ?_; clear hKK KK)
      refine PL.nil ⟨A.length - (k + 1), by omega, k + 1, by omega, by omega, ?_, ?_, ?_, ?_, ?_⟩
      · simp [go_sem, f0]
      · simp [go_sem, f1]
      · simp [go_sem, f5]
      · simp [go_sem, f6]
      · simp [go_sem]
    · have hka : k = A.length := by omega
      subst hka
      refine PC.seq fun K2 hK2 => ?_
      refine PC.seq fun K3 hK3 => ?_
      refine PC.region ?_
      repeat (refine PL.k rfl fun KK hKK => ?_; simp [go_sem, stepK, f5, f7, hlenS]; refine hKK _ ?_; clear hKK KK)
      refine PL.done hK3 ?_; clear hK3
      refine PC.condF (by simp [go_sem]) ?_
      refine PC.exit (hK _ _ ?_); clear hK
      refine PC.seq fun K hK => ?_
      refine PC.region ?_
      repeat (refine PL.k rfl fun KK hKK => ?_; simp [go_sem, stepK, f0]; refine hKK _ ?_; clear hKK KK)
      refine PL.callB (qs := [slX l]) rfl rfl (by kernel_rfl) (First_ok l) (by simp [go_sem]) ?_ ?_ ?_
      · simp [go_sem, nX]
      · simp [go_sem, nX]
      repeat (refine PL.k rfl fun KK hKK => ?_; simp [go_sem, stepK, f0]; refine hKK _ ?_; clear hKK KK)
      refine PL.callB (qs := [slX l]) rfl rfl (by kernel_rfl) (refFirst_ok l) (by simp [go_sem]) ?_ ?_ ?_
      · simp [go_sem, nX]
      · simp [go_sem, nX]
      refine PL.callB (qs := [slI (spFirst l), slI (spFirst l)]) rfl rfl (by kernel_rfl) (sameInts_ok _ _ (by omega) (by omega)) (by simp [go_sem]) ?_ ?_ ?_
      · simp [go_sem, noP_slI]
      · simp [go_sem, noP_slI]
      repeat (refine PL.k rfl fun KK hKK => ?_; simp [go_sem, stepK, f0]; refine hKK _ ?_; clear hKK KK)
      (refine PL.g rfl rfl fun KK hKK => ?_; simp (disch := omega) [go_sem, L.stepG, f0]; refine hKK _ ?_; clear hKK KK)
      refine PL.callBg (qs := [slX l]) rfl rfl rfl (by simp [go_sem]) (by kernel_rfl) (Last_ok l) (by simp [go_sem]) ?_ ?_ ?_
      · simp [go_sem, nX, noP_slI]
      · simp [go_sem, nX, noP_slI]
      (refine PL.g rfl rfl fun KK hKK => ?_; simp (disch := omega) [go_sem, L.stepG, f0]; refine hKK _ ?_; clear hKK KK)
      refine PL.callBg (qs := [slX l]) rfl rfl rfl (by simp [go_sem]) (by kernel_rfl) (refLast_ok l) (by simp [go_sem]) ?_ ?_ ?_
      · simp [go_sem, nX, noP_slI]
      · simp [go_sem, nX, noP_slI]
      refine PL.callBg (qs := [slI (spLast l), slI (spLast l)]) rfl rfl rfl (by simp [go_sem]) (by kernel_rfl) (sameInts_ok _ _ (by omega) (by omega)) (by simp [go_sem]) ?_ ?_ ?_
      · simp [go_sem, nX, noP_slI]
      · simp [go_sem, nX, noP_slI]
      repeat (refine PL.k rfl fun KK hKK => ?_; simp [go_sem, stepK, f0]; refine hKK _ ?_; clear hKK KK)
      have hF := hlens.2.2.2 i
      (refine PL.g rfl rfl fun KK hKK => ?_; simp (disch := omega) [go_sem, L.stepG, f0]; refine hKK _ ?_; clear hKK KK)
      (refine PL.g rfl rfl fun KK hKK => ?_; simp (disch := omega) [go_sem, L.stepG, f1]; refine hKK _ ?_; clear hKK KK)
      refine PL.callBg (qs := [slX l, I i]) rfl rfl rfl (by simp [go_sem]) (by kernel_rfl) (Follow_ok l i) (by simp [go_sem]) ?_ ?_ ?_
      · simp [go_sem, nX, noP_slI]
      · simp [go_sem, nX, noP_slI]
      (refine PL.g rfl rfl fun KK hKK => ?_; simp (disch := omega) [go_sem, L.stepG, f0]; refine hKK _ ?_; clear hKK KK)
      (refine PL.g rfl rfl fun KK hKK => ?_; simp (disch := omega) [go_sem, L.stepG, f1]; refine hKK _ ?_; clear hKK KK)
      refine PL.callBg (qs := [slX l, I i]) rfl rfl rfl (by simp [go_sem]) (by kernel_rfl) (refFollow_ok l i) (by simp [go_sem]) ?_ ?_ ?_
      · simp [go_sem, nX, noP_slI]
      · simp [go_sem, nX, noP_slI]
      refine PL.callBg (qs := [slI (spFollow l i), slI (spFollow l i)]) rfl rfl rfl (by simp [go_sem]) (by kernel_rfl) (sameInts_ok _ _ (by omega) (by omega)) (by simp [go_sem]) ?_ ?_ ?_
      · simp [go_sem, nX, noP_slI]
      · simp [go_sem, nX, noP_slI]
      repeat (refine PL.k rfl fun KK hKK => ?_; simp [go_sem, stepK, f0]; refine hKK _ ?_; clear hKK KK)
      (refine PL.g rfl rfl fun KK hKK => ?_; simp (disch := omega) [go_sem, L.stepG, f0]; refine hKK _ ?_; clear hKK KK)
      refine PL.callBg (qs := [slX l]) rfl rfl rfl (by simp [go_sem]) (by kernel_rfl) (Free_ok l) (by simp [go_sem]) ?_ ?_ ?_
      · simp [go_sem, nX, noP_slI]
      · simp [go_sem, nX, noP_slI]
      (refine PL.g rfl rfl fun KK hKK => ?_; simp (disch := omega) [go_sem, L.stepG, f0]; refine hKK _ ?_; clear hKK KK)
      refine PL.callBg (qs := [slX l]) rfl rfl rfl (by simp [go_sem]) (by kernel_rfl) (refFree_ok l) (by simp [go_sem]) ?_ ?_ ?_
      · simp [go_sem, nX, noP_slI]
      · simp [go_sem, nX, noP_slI]
      (refine PL.g rfl rfl fun KK hKK => ?_; simp (disch := omega) [go_sem, L.stepG, f0]; refine hKK _ ?_; clear hKK KK)
      repeat (refine PL.k rfl fun KK hKK => ?_; simp [go_sem, stepK, f0]; refine hKK _ ?_; clear hKK KK)
      refine PL.callBg (qs := []) rfl rfl rfl (by simp [go_sem]) (by kernel_rfl) knows10_ok (by simp [go_sem]) ?_ ?_ ?_
      · simp [go_sem, nX, noP_slI]
      · simp [go_sem, nX, noP_slI]
      repeat (refine PL.k rfl fun KK hKK => ?_; simp [go_sem, stepK, f0]; refine hKK _ ?_; clear hKK KK)
      refine PL.done hK ?_; clear hK
      refine PC.ret ?_
      refine fin (.inr rfl) ?_ (.u _)
      simp [resP, resP1, Try.results3, go_sem]
end Go.Proofs.Ytficeeaaaijgcaa

/-
  Chapter 7's reference over pure values: Cat, Alt of two expressions.
-/
namespace Go.Proofs.Ytficeeaaaijgcaa
open Go Go.RowKit L
set_option linter.unusedVariables false
set_option linter.unusedSimpArgs false

theorem PL.appendP {P : Program} {W : Env} {n : Nat} {F : PFrame} {H : PHeap} {o : Oper} {l : List Oper} {ops : Array Oper} {K : PFrame → PHeap → Prop} {s x : Operand} {t e : TypeId} {k b d id ver m m2 : Nat} {z : Value} {cs cs2 : List PV} {px : PV} (hg : o.guard = none) (ho : o.op = .call { callee := .builtin .append, args := #[s, x], argTypes := #[t, t] }) (hd : o.dst = some d) (hdn : d < n) (ht : selem P t = some (e, k, b, z))
    (hs : evP F s = .ps id ver) (hr : H id = ⟨ver, some (.row e k m cs)⟩) (hp : evP F x = px) (hx : srcP H k px = some (m2, cs2)) (hleaf : ∀ p ∈ cs2, leafOk H p = true) (h63 : m + m2 ≤ maxLen) (hbytes : (m + m2) * b ≤ 140737488355328)
    (h : ∀ ver' H', H' id = ⟨ver', some (.row e k (m + m2) (cs ++ cs2))⟩ → (∀ j, j ≠ id → H' j = H j) → PL P W n ops l (F.put (some d) (.ps id ver')) H' K) : PL P W n ops (o :: l) F H K := by
  subst hp
  refine PL.pe hg (PE.append (cs := cs) ho hd hdn ht hs (by simp [liveRow, hr]) hx hleaf h63 hbytes ?_)
  rw [hd]
  exact absH (h _)

def rxCs (l : List Rx) : List PV := (l.map encX).flatMap PV.cells
theorem rxCs_leaf (H : PHeap) (l : List Rx) : ∀ p ∈ rxCs l, leafOk H p = true := fun p hp => by
  obtain ⟨y, hy, hp⟩ := List.mem_flatMap.1 hp
  obtain ⟨x, _, rfl⟩ := List.mem_map.1 hy
  simp [encX, PV.cells] at hp
  rcases hp with rfl | rfl | rfl | rfl | rfl <;> rfl
theorem rxCs_app (l m : List Rx) : rxCs (l ++ m) = rxCs l ++ rxCs m := by simp [rxCs]
theorem srcX (H : PHeap) (l : List Rx) : srcP H 5 (slX l) = some (l.length, rxCs l) := by simp [srcP, slX, rxCs]
theorem rxView {H : PHeap} {l : List Rx} {id v : Nat} (h : H id = ⟨v, some (.row 88 5 l.length (rxCs l))⟩) : View H (.ps id v) (slX l) := by
  refine View.row (t := 88) (k := 5) (n := l.length) (cs := rxCs l) (by simp [liveRow, h]) (l.map encX) (by simp) (fun y hy => by obtain ⟨z, _, rfl⟩ := List.mem_map.1 hy; rfl) fun i p q h1 h2 => ?_
  have h2' : (rxCs l)[i]? = some q := h2
  rw [h1] at h2'
  cases h2'
  obtain ⟨y, hy, hx⟩ := List.mem_flatMap.1 (List.mem_of_getElem? h1)
  obtain ⟨x, _, rfl⟩ := List.mem_map.1 hy
  refine View.noP ?_
  simp [encX, PV.cells] at hx
  rcases hx with rfl | rfl | rfl | rfl | rfl <;> exact .u _

def manyS (a b : List Rx) (k : Int) : Nat → List Rx
  | 0 => []
  | 1 => a
  | _ => a ++ b ++ [⟨k, 0, 0, 0, 0⟩]

set_option maxRecDepth 20000 in
set_option maxHeartbeats 1000000 in
theorem many_ok (a b : List Rx) (k : Int) (ha : a.length ≤ 1000) (hb : b.length ≤ 1000) : PCall Try.prog 66 [.sl 1 [slX a, slX b], I k] (· = slX (a ++ b ++ [⟨k, 0, 0, 0, 0⟩])) := by
  refine PCall.intro' Try.func66 rfl Try.ntmps66 (by simp) fun W => ?_
  refine PC.seq fun K hK => ?_
  refine PC.region ?_
  repeat (refine PL.k rfl fun KK hKK => ?_; simp [go_sem, stepK]; refine hKK _ ?_; clear hKK KK)
  refine PL.done hK ?_; clear hK
  refine PC.seq fun K hK => ?_
  refine PC.region ?_
  refine PL.buildSliceA 0 (d := 7) rfl rfl rfl (by simp) selem_22 rfl (by omega) (by unfold maxLen; omega) (ips := []) (by simp [go_sem]) (by simp [litOk]) (cs := []) rfl fun v0 H0 b0 o0 => ?_
  repeat (refine PL.k rfl fun KK hKK => ?_; simp [go_sem, stepK]; refine hKK _ ?_; clear hKK KK)
  refine PL.done hK ?_; clear hK
  refine PC.seq fun K hK => ?_
  refine PC.seq fun K2 hK2 => ?_
  refine PC.region ?_
  repeat (refine PL.k rfl fun KK hKK => ?_; simp [go_sem, stepK]; refine hKK _ ?_; clear hKK KK)
  refine PL.done hK2 ?_; clear hK2
  refine PC.block ?_
  refine PC.loop (fun m F H' => ∃ (i v : Nat), i ≤ 2 ∧ m = 2 - i ∧ F 0 = .sl 1 [slX a, slX b] ∧ F 1 = I k ∧ F 5 = .ps 0 v ∧ F 6 = I i ∧ H' 0 = ⟨v, some (.row 88 5 (manyS a b k i).length (rxCs (manyS a b k i)))⟩) (m := 2) ⟨0, v0, by omega, by omega, by simp [go_sem], by simp [go_sem], by simp [go_sem], by simp [go_sem], b0⟩ fun m F H' hI => ?_
  obtain ⟨i, v, hi, hm, f0, f1, f5, f6, h0⟩ := hI
  have h3 : i = 0 ∨ i = 1 ∨ i = 2 := by omega
  rcases h3 with rfl | rfl | rfl
  · refine PC.seq fun K2 hK2 => ?_
    refine PC.seq fun K3 hK3 => ?_
    refine PC.region ?_
    repeat (refine PL.k rfl fun KK hKK => ?_; simp [go_sem, stepK, f0, f6]; refine hKK _ ?_; clear hKK KK)
    refine PL.done hK3 ?_; clear hK3
    refine PC.condT (by simp [go_sem]) ?_
    refine PC.skip (hK2 _ _ ?_); clear hK2
    refine PC.seq fun K2 hK2 => ?_
    refine PC.block ?_
    refine PC.seq fun K3 hK3 => ?_
    refine PC.region ?_
    repeat (refine PL.k rfl fun KK hKK => ?_; simp [go_sem, stepK, f0, f5, f6]; refine hKK _ ?_; clear hKK KK)
    refine PL.appendP (d := 19) (id := 0) (ver := v) (m := (manyS a b k 0).length) (m2 := a.length) (cs := rxCs (manyS a b k 0)) (cs2 := rxCs a) (px := slX a) rfl rfl rfl (by simp) selem_22 (by simp [go_sem, f5]) h0 (by simp [go_sem]) (srcX _ _) (rxCs_leaf _ _) (by simp [manyS, maxLen]; omega) (by simp [manyS]; omega) fun v1 H1 b1 o1 => ?_
    repeat (refine PL.k rfl fun KK hKK => ?_; simp [go_sem, stepK]; refine hKK _ ?_; clear hKK KK)
    refine PL.done hK3 ?_; clear hK3
    refine PC.seq fun K3 hK3 => ?_
    refine PC.region ?_
    repeat (refine PL.k rfl fun KK hKK => ?_; simp [go_sem, stepK, f6]; refine hKK _ ?_; clear hKK KK)
    refine PL.done hK3 ?_; clear hK3
    refine PC.condF (by simp [go_sem]) ?_
    refine PC.skip (hK2 _ _ ?_); clear hK2
    refine PC.region ?_
    repeat (refine PL.k rfl fun KK hKK => ?_; simp [go_sem, stepK, f6]; refine hKK _ ?_; clear hKK KK)
    refine PL.nil ⟨1, by omega, 1, v1, by omega, by omega, by simp [go_sem, f0], by simp [go_sem, f1], by simp [go_sem], by simp [go_sem], by rw [b1]; simp [manyS, rxCs]⟩
  · refine PC.seq fun K2 hK2 => ?_
    refine PC.seq fun K3 hK3 => ?_
    refine PC.region ?_
    repeat (refine PL.k rfl fun KK hKK => ?_; simp [go_sem, stepK, f0, f6]; refine hKK _ ?_; clear hKK KK)
    refine PL.done hK3 ?_; clear hK3
    refine PC.condT (by simp [go_sem]) ?_
    refine PC.skip (hK2 _ _ ?_); clear hK2
    refine PC.seq fun K2 hK2 => ?_
    refine PC.block ?_
    refine PC.seq fun K3 hK3 => ?_
    refine PC.region ?_
    repeat (refine PL.k rfl fun KK hKK => ?_; simp [go_sem, stepK, f0, f5, f6]; refine hKK _ ?_; clear hKK KK)
    refine PL.appendP (d := 19) (id := 0) (ver := v) (m := (manyS a b k 1).length) (m2 := b.length) (cs := rxCs (manyS a b k 1)) (cs2 := rxCs b) (px := slX b) rfl rfl rfl (by simp) selem_22 (by simp [go_sem, f5]) h0 (by simp [go_sem]) (srcX _ _) (rxCs_leaf _ _) (by simp [manyS, maxLen]; omega) (by simp [manyS]; omega) fun v1 H1 b1 o1 => ?_
    repeat (refine PL.k rfl fun KK hKK => ?_; simp [go_sem, stepK]; refine hKK _ ?_; clear hKK KK)
    refine PL.done hK3 ?_; clear hK3
    refine PC.seq fun K3 hK3 => ?_
    refine PC.region ?_
    repeat (refine PL.k rfl fun KK hKK => ?_; simp [go_sem, stepK, f6]; refine hKK _ ?_; clear hKK KK)
    refine PL.done hK3 ?_; clear hK3
    refine PC.condT (by simp [go_sem]) ?_
    refine PC.region ?_
    repeat (refine PL.k rfl fun KK hKK => ?_; simp [go_sem, stepK, f1]; refine hKK _ ?_; clear hKK KK)
    refine PL.buildSliceR (d := 25) rfl rfl rfl (by simp) selem_22 rfl (by omega) (ips := [(0, encX ⟨k, 0, 0, 0, 0⟩)]) (by simp [go_sem]; rfl) (by simp [litOk, go_sem, encX, W64, PV.cells]) (ps := [encX ⟨k, 0, 0, 0, 0⟩]) rfl ?_
    refine PL.appendP (d := 26) (id := 0) (ver := v1) (m := (manyS a b k 1).length + b.length) (m2 := 1) (cs := rxCs (manyS a b k 1) ++ rxCs b) (cs2 := rxCs [⟨k, 0, 0, 0, 0⟩]) (px := slX [⟨k, 0, 0, 0, 0⟩]) rfl rfl rfl (by simp) selem_22 (by simp [go_sem]) b1 (by simp [go_sem]; rfl) (srcX _ _) (rxCs_leaf _ _) (by simp [manyS, maxLen]; omega) (by simp [manyS]; omega) fun v2 H2 b2 o2 => ?_
    repeat (refine PL.k rfl fun KK hKK => ?_; simp [go_sem, stepK]; refine hKK _ ?_; clear hKK KK)
    refine PL.done hK2 ?_; clear hK2
    refine PC.region ?_
    repeat (refine PL.k rfl fun KK hKK => ?_; simp [go_sem, stepK, f6]; refine hKK _ ?_; clear hKK KK)
    refine PL.nil ⟨0, by omega, 2, v2, by omega, by omega, by simp [go_sem, f0], by simp [go_sem, f1], by simp [go_sem], by simp [go_sem], by rw [b2]; simp [manyS, rxCs_app]; omega⟩
  · refine PC.seq fun K2 hK2 => ?_
    refine PC.seq fun K3 hK3 => ?_
    refine PC.region ?_
    repeat (refine PL.k rfl fun KK hKK => ?_; simp [go_sem, stepK, f0, f6]; refine hKK _ ?_; clear hKK KK)
    refine PL.done hK3 ?_; clear hK3
    refine PC.condF (by simp [go_sem]) ?_
    refine PC.exit (hK _ _ ?_); clear hK
    refine PC.seq fun K hK => ?_
    refine PC.region ?_
    repeat (refine PL.k rfl fun KK hKK => ?_; simp [go_sem, stepK, f5]; refine hKK _ ?_; clear hKK KK)
    refine PL.done hK ?_; clear hK
    refine PC.ret ?_
    refine ⟨.inr rfl, .ps 0 v, slX (a ++ b ++ [⟨k, 0, 0, 0, 0⟩]), ?_, rxView h0, slX_noP _, rfl⟩
    simp [resP, resP1, Try.results66, go_sem]

set_option maxRecDepth 20000 in
theorem Cat_ok (a b : List Rx) (ha : a.length ≤ 1000) (hb : b.length ≤ 1000) : PCall Try.prog 28 [.sl 1 [slX a, slX b]] (· = slX (a ++ b ++ [⟨3, 0, 0, 0, 0⟩])) := by
  refine PCall.intro' Try.func28 rfl Try.ntmps28 (by simp) fun W => ?_
  refine PC.seq fun K hK => ?_
  refine PC.region ?_
  repeat (refine PL.k rfl fun KK hKK => ?_; simp [go_sem, stepK]; refine hKK _ ?_; clear hKK KK)
  refine PL.done hK ?_; clear hK
  refine PC.seq fun K hK => ?_
  refine PC.seq fun K2 hK2 => ?_
  refine PC.region ?_
  repeat (refine PL.k rfl fun KK hKK => ?_; simp [go_sem, stepK]; refine hKK _ ?_; clear hKK KK)
  refine PL.done hK2 ?_; clear hK2
  refine PC.condF (by simp [go_sem]) ?_
  refine PC.skip (hK _ _ ?_); clear hK
  refine PC.seq fun K hK => ?_
  refine PC.region ?_
  repeat (refine PL.k rfl fun KK hKK => ?_; simp [go_sem, stepK]; refine hKK _ ?_; clear hKK KK)
  refine PL.callB (qs := [.sl 1 [slX a, slX b], I 3]) rfl rfl (by kernel_rfl) (many_ok a b 3 ha hb) (by simp [go_sem]) ?_ ?_ ?_
  · simp [go_sem, slX_noP]
  · simp [go_sem, slX_noP]
  repeat (refine PL.k rfl fun KK hKK => ?_; simp [go_sem, stepK]; refine hKK _ ?_; clear hKK KK)
  refine PL.done hK ?_; clear hK
  refine PC.ret ?_
  refine fin (.inr rfl) ?_ (slX_noP _)
  simp [resP, resP1, Try.results28, go_sem]

set_option maxRecDepth 20000 in
theorem Alt_ok (a b : List Rx) (ha : a.length ≤ 1000) (hb : b.length ≤ 1000) : PCall Try.prog 29 [.sl 1 [slX a, slX b]] (· = slX (a ++ b ++ [⟨4, 0, 0, 0, 0⟩])) := by
  refine PCall.intro' Try.func29 rfl Try.ntmps29 (by simp) fun W => ?_
  refine PC.seq fun K hK => ?_
  refine PC.region ?_
  repeat (refine PL.k rfl fun KK hKK => ?_; simp [go_sem, stepK]; refine hKK _ ?_; clear hKK KK)
  refine PL.done hK ?_; clear hK
  refine PC.seq fun K hK => ?_
  refine PC.seq fun K2 hK2 => ?_
  refine PC.region ?_
  repeat (refine PL.k rfl fun KK hKK => ?_; simp [go_sem, stepK]; refine hKK _ ?_; clear hKK KK)
  refine PL.done hK2 ?_; clear hK2
  refine PC.condF (by simp [go_sem]) ?_
  refine PC.skip (hK _ _ ?_); clear hK
  refine PC.seq fun K hK => ?_
  refine PC.region ?_
  repeat (refine PL.k rfl fun KK hKK => ?_; simp [go_sem, stepK]; refine hKK _ ?_; clear hKK KK)
  refine PL.callB (qs := [.sl 1 [slX a, slX b], I 4]) rfl rfl (by kernel_rfl) (many_ok a b 4 ha hb) (by simp [go_sem]) ?_ ?_ ?_
  · simp [go_sem, slX_noP]
  · simp [go_sem, slX_noP]
  repeat (refine PL.k rfl fun KK hKK => ?_; simp [go_sem, stepK]; refine hKK _ ?_; clear hKK KK)
  refine PL.done hK ?_; clear hK
  refine PC.ret ?_
  refine fin (.inr rfl) ?_ (slX_noP _)
  simp [resP, resP1, Try.results29, go_sem]
end Go.Proofs.Ytficeeaaaijgcaa

/-
  Chapter 10's reference: Has, over pure values.
-/
namespace Go.Proofs.Ytficeeaaaijgcaa
open Go Go.RowKit L
set_option linter.unusedVariables false
set_option linter.unusedSimpArgs false

set_option maxRecDepth 20000 in
set_option maxHeartbeats 400000 in
theorem Has_ok (l : List Int) (n : Int) (hl : l.length ≤ 4000000) : PCall Try.prog 26 [.sl 1 (l.map I), I n] (· = B (decide (n ∈ l))) := by
  refine PCall.intro' Try.func26 rfl Try.ntmps26 (by simp) fun W => ?_
  refine PC.seq fun K hK => ?_
  refine PC.region ?_
  repeat (refine PL.k rfl fun KK hKK => ?_; simp [go_sem, stepK]; refine hKK _ ?_; clear hKK KK)
  refine PL.done hK ?_; clear hK
  refine PC.seq fun K hK => ?_
  refine PC.seq fun K2 hK2 => ?_
  refine PC.region ?_
  repeat (refine PL.k rfl fun KK hKK => ?_; simp [go_sem, stepK]; refine hKK _ ?_; clear hKK KK)
  refine PL.done hK2 ?_; clear hK2
  refine PC.block ?_
  refine PC.loop (fun m F H => ∃ k : Nat, k ≤ l.length ∧ m = l.length - k ∧ F 0 = .sl 1 (l.map I) ∧ F 1 = I n ∧ F 5 = I k ∧ n ∉ l.take k) (m := l.length) ⟨0, by simp [go_sem]⟩ fun m F H hI => ?_
  obtain ⟨k, hk, hm, h0, h1, h5, hn⟩ := hI
  by_cases hlt : k < l.length
  · have hx : l[k]? = some l[k] := List.getElem?_eq_getElem hlt
    refine PC.seq fun K2 hK2 => ?_
    refine PC.seq fun K3 hK3 => ?_
    refine PC.region ?_
    repeat (refine PL.k rfl fun KK hKK => ?_; simp [go_sem, stepK, h0, h1, h5, hlt]; refine hKK _ ?_; clear hKK KK)
    refine PL.done hK3 ?_; clear hK3
    refine PC.condT (by simp [go_sem]) ?_
    refine PC.skip (hK2 _ _ ?_); clear hK2
    refine PC.seq fun K2 hK2 => ?_
    refine PC.block ?_
    refine PC.seq fun K3 hK3 => ?_
    refine PC.region ?_
    by_cases he : l[k] = n
    · repeat (refine PL.k rfl fun KK hKK => ?_; simp [go_sem, stepK, h0, h1, h5, hlt, he]; refine hKK _ ?_; clear hKK KK)
      refine PL.done hK3 ?_; clear hK3
      refine PC.condT (by simp [go_sem]) ?_
      refine PC.seq fun K3 hK3 => ?_
      refine PC.region ?_
      repeat (refine PL.k rfl fun KK hKK => ?_; simp [go_sem, stepK]; refine hKK _ ?_; clear hKK KK)
      refine PL.done hK3 ?_; clear hK3
      refine PC.ret ?_
      have hm : n ∈ l := he ▸ List.getElem_mem hlt
      simp [inBlockP, thenP, resP, resP1, Try.results26, go_sem, hm]
    · repeat (refine PL.k rfl fun KK hKK => ?_; simp [go_sem, stepK, h0, h1, h5, hlt, he]; refine hKK _ ?_; clear hKK KK)
      refine PL.done hK3 ?_; clear hK3
      refine PC.condF (by simp [go_sem]) ?_
      refine PC.skip (hK2 _ _ ?_); clear hK2
      refine PC.region ?_
      repeat (refine PL.k rfl fun KK hKK => ?_; simp (disch := omega) [go_sem, stepK, h0, h1, h5]; refine hKK _ ?_; clear hKK KK)
      refine PL.nil ⟨l.length - (k + 1), by omega, k + 1, by omega, by omega, ?_, ?_, ?_, ?_⟩
      · simp [go_sem, h0]
      · simp [go_sem, h1]
      · simp [go_sem]
      · rw [List.take_succ_eq_append_getElem hlt]; intro h; rw [List.mem_append] at h; rcases h with h | h; exact hn h; simp at h; exact he h.symm
  · refine PC.seq fun K2 hK2 => ?_
    refine PC.seq fun K3 hK3 => ?_
    refine PC.region ?_
    repeat (refine PL.k rfl fun KK hKK => ?_; simp [go_sem, stepK, h0, h1, h5, hlt]; refine hKK _ ?_; clear hKK KK)
    refine PL.done hK3 ?_; clear hK3
    refine PC.condF (by simp [go_sem]) ?_
    refine PC.exit ?_
    refine hK _ _ ?_
    refine PC.seq fun K3 hK3 => ?_
    refine PC.region ?_
    repeat (refine PL.k rfl fun KK hKK => ?_; simp [go_sem, stepK]; refine hKK _ ?_; clear hKK KK)
    refine PL.done hK3 ?_; clear hK3
    refine PC.ret ?_
    have hm : n ∉ l := by rwa [List.take_of_length_le (by omega)] at hn
    simp [inBlockP, thenP, resP, resP1, Try.results26, go_sem, hm]
end Go.Proofs.Ytficeeaaaijgcaa

/-
  Chapter 2's reference: Has, over pure values.
-/
namespace Go.Proofs.Ytficeeaaaijgcaa
open Go Go.RowKit L
set_option linter.unusedVariables false
set_option linter.unusedSimpArgs false

def wordS (x : Rx) (i : Int) : Int := if i = 0 then x.s0 else if i = 1 then x.s1 else if i = 2 then x.s2 else x.s3
def hasS (x : Rx) (b : Nat) : Bool := decide ((wordS x ((b / 64 : Nat) : Int) / 2 ^ (b % 64)).tmod 2 = 1)

set_option maxRecDepth 20000 in
theorem refHas_ok (x : Rx) (b : Nat) (hb : b < 256) : PCall Try.prog 25 [encS x, U8 b] (· = B (hasS x b)) := by
  refine PCall.intro' Try.func25 rfl Try.ntmps25 (by simp) fun W => ?_
  refine PC.seq fun K hK => ?_
  refine PC.region ?_
  refine PL.boxA 2 (d := 2) rfl rfl rfl (by simp) (v := encS x) (by simp [go_sem]) (by simp [go_sem, encS, W64]) rfl fun v H1 b1 o1 => ?_
  have hq : (b / 64 = 0 ∨ b / 64 = 1 ∨ b / 64 = 2 ∨ b / 64 = 3) := by omega
  have hm : ((b : Int) % 64).toNat = b % 64 := by omega
  have hm2 : min (b % 64) IntKind.u64.bits = b % 64 := by simp [IntKind.bits]; omega
  rcases hq with hq | hq | hq | hq
  · have hq' : (b : Int) / 64 = 0 := by omega
    repeat (first | (refine PC.seq fun K hK => ?_) | (refine PC.block ?_) | (refine PC.region ?_) | (refine PL.k rfl fun KK hKK => ?_; simp (disch := omega) [go_sem, stepK, b1, encS, W64, hq']; refine hKK _ ?_; clear hKK KK) | (refine PL.k rfl fun KK hKK => ?_; simp [go_sem, stepK, b1, encS, W64, hq']; refine hKK _ ?_; clear hKK KK) | (refine PL.done hK ?_; clear hK) | (refine PC.skip (hK _ _ ?_); clear hK) | (refine PC.condT ?_ ?_; focus (simp [go_sem, b1, encS, W64, hq']; done)) | (refine PC.condF ?_ ?_; focus (simp [go_sem, b1, encS, W64, hq']; done)) | (refine PC.exit ?_; first | (refine hK _ _ ?_; clear hK) | (clear hK; refine hK _ _ ?_; clear hK) | (clear hK; clear hK; refine hK _ _ ?_; clear hK)))
    (refine PC.ret ?_; refine fin (.inr rfl) (by simp [resP, resP1, Try.results25, go_sem, hasS, wordS, hq, hm, hm2]) (by simp [go_sem]))
  · have hq' : (b : Int) / 64 = 1 := by omega
    repeat (first | (refine PC.seq fun K hK => ?_) | (refine PC.block ?_) | (refine PC.region ?_) | (refine PL.k rfl fun KK hKK => ?_; simp (disch := omega) [go_sem, stepK, b1, encS, W64, hq']; refine hKK _ ?_; clear hKK KK) | (refine PL.k rfl fun KK hKK => ?_; simp [go_sem, stepK, b1, encS, W64, hq']; refine hKK _ ?_; clear hKK KK) | (refine PL.done hK ?_; clear hK) | (refine PC.skip (hK _ _ ?_); clear hK) | (refine PC.condT ?_ ?_; focus (simp [go_sem, b1, encS, W64, hq']; done)) | (refine PC.condF ?_ ?_; focus (simp [go_sem, b1, encS, W64, hq']; done)) | (refine PC.exit ?_; first | (refine hK _ _ ?_; clear hK) | (clear hK; refine hK _ _ ?_; clear hK) | (clear hK; clear hK; refine hK _ _ ?_; clear hK)))
    (refine PC.ret ?_; refine fin (.inr rfl) (by simp [resP, resP1, Try.results25, go_sem, hasS, wordS, hq, hm, hm2]) (by simp [go_sem]))
  · have hq' : (b : Int) / 64 = 2 := by omega
    repeat (first | (refine PC.seq fun K hK => ?_) | (refine PC.block ?_) | (refine PC.region ?_) | (refine PL.k rfl fun KK hKK => ?_; simp (disch := omega) [go_sem, stepK, b1, encS, W64, hq']; refine hKK _ ?_; clear hKK KK) | (refine PL.k rfl fun KK hKK => ?_; simp [go_sem, stepK, b1, encS, W64, hq']; refine hKK _ ?_; clear hKK KK) | (refine PL.done hK ?_; clear hK) | (refine PC.skip (hK _ _ ?_); clear hK) | (refine PC.condT ?_ ?_; focus (simp [go_sem, b1, encS, W64, hq']; done)) | (refine PC.condF ?_ ?_; focus (simp [go_sem, b1, encS, W64, hq']; done)) | (refine PC.exit ?_; first | (refine hK _ _ ?_; clear hK) | (clear hK; refine hK _ _ ?_; clear hK) | (clear hK; clear hK; refine hK _ _ ?_; clear hK)))
    (refine PC.ret ?_; refine fin (.inr rfl) (by simp [resP, resP1, Try.results25, go_sem, hasS, wordS, hq, hm, hm2]) (by simp [go_sem]))
  · have hq' : (b : Int) / 64 = 3 := by omega
    repeat (first | (refine PC.seq fun K hK => ?_) | (refine PC.block ?_) | (refine PC.region ?_) | (refine PL.k rfl fun KK hKK => ?_; simp (disch := omega) [go_sem, stepK, b1, encS, W64, hq']; refine hKK _ ?_; clear hKK KK) | (refine PL.k rfl fun KK hKK => ?_; simp [go_sem, stepK, b1, encS, W64, hq']; refine hKK _ ?_; clear hKK KK) | (refine PL.done hK ?_; clear hK) | (refine PC.skip (hK _ _ ?_); clear hK) | (refine PC.condT ?_ ?_; focus (simp [go_sem, b1, encS, W64, hq']; done)) | (refine PC.condF ?_ ?_; focus (simp [go_sem, b1, encS, W64, hq']; done)) | (refine PC.exit ?_; first | (refine hK _ _ ?_; clear hK) | (clear hK; refine hK _ _ ?_; clear hK) | (clear hK; clear hK; refine hK _ _ ?_; clear hK)))
    (refine PC.ret ?_; refine fin (.inr rfl) (by simp [resP, resP1, Try.results25, go_sem, hasS, wordS, hq, hm, hm2]) (by simp [go_sem]))
end Go.Proofs.Ytficeeaaaijgcaa

/-
  Chapter 9's reference: square tables of truth values, over pure values: none, same.
-/
namespace Go.Proofs.Ytficeeaaaijgcaa
open Go Go.RowKit L
set_option linter.unusedVariables false
set_option linter.unusedSimpArgs false

/-- a row of truth values -/
def boolsV (N : Nat) (f : Nat → Bool) : PV := .sl 1 ((List.range N).map fun q => B (f q))
def matV (N : Nat) (f : Nat → Nat → Bool) : PV := .sl 1 ((List.range N).map fun p => boolsV N (f p))
/-- an own table: its row of rows is block b, row p is block b + 1 + p -/
def MatAt (H : PHeap) (b v : Nat) (g : Nat → Nat) (N : Nat) (f : Nat → Nat → Bool) : Prop :=
  H b = ⟨v, some (.row 51 1 N ((List.range N).map fun p => .ps (b + 1 + p) (g p)))⟩ ∧ ∀ p, p < N → H (b + 1 + p) = ⟨g p, some (.row 4 1 N ((List.range N).map fun q => B (f p q)))⟩

theorem setMany_range {N q : Nat} (hq : q < N) (f : Nat → PV) (x : PV) : setMany ((List.range N).map f) q [x] = (List.range N).map fun i => if i = q then x else f i := by
  apply List.ext_getElem?
  intro i
  rw [setMany_get _ _ _ (by simp; omega)]
  by_cases h : q ≤ i ∧ i < q + [x].length
  · have : i = q := by simp at h; omega
    subst this
    rw [if_pos h]; simp [hq]
  · rw [if_neg h]
    have : ¬ i = q := by simp at h; omega
    simp only [List.getElem?_map]
    cases h : (List.range N)[i]? with
    | none => rfl
    | some j =>
      have := (List.getElem?_eq_some_iff.1 h).2
      simp at this
      subst this
      simp [*]
def updM (f : Nat → Nat → Bool) (p q : Nat) (x : Bool) : Nat → Nat → Bool := fun p' q' => if p' = p ∧ q' = q then x else f p' q'
theorem MatAt.set {H H' : PHeap} {b v : Nat} {g : Nat → Nat} {N : Nat} {f : Nat → Nat → Bool} (h : MatAt H b v g N f) {p q : Nat} {x : Bool} (hp : p < N) (h1 : H' (b + 1 + p) = ⟨g p, some (.row 4 1 N ((List.range N).map fun i => if i = q then B x else B (f p i)))⟩) (ho : ∀ j, j ≠ b + 1 + p → H' j = H j) : MatAt H' b v g N (updM f p q x) := by
  refine ⟨by rw [ho b (by omega)]; exact h.1, fun i hi => ?_⟩
  by_cases e : i = p
  · subst e
    rw [h1]
    congr 3
    apply List.map_congr_left
    intro j _
    unfold updM
    by_cases e : j = q <;> simp [e]
  · rw [ho _ (by omega), h.2 i hi]
    congr 3
    apply List.map_congr_left
    intro j _
    unfold updM
    simp [e]
theorem boolsV_noP (N : Nat) (f : Nat → Bool) : NoP (boolsV N f) := .sl _ _ fun c hc => by obtain ⟨q, _, rfl⟩ := List.mem_map.1 hc; exact .u _
theorem matV_noP (N : Nat) (f : Nat → Nat → Bool) : NoP (matV N f) := .sl _ _ fun c hc => by obtain ⟨q, _, rfl⟩ := List.mem_map.1 hc; exact boolsV_noP _ _
theorem MatAt.view {H : PHeap} {b v : Nat} {g : Nat → Nat} {N : Nat} {f : Nat → Nat → Bool} (h : MatAt H b v g N f) : View H (.ps b v) (matV N f) := by
  refine View.row (t := 51) (k := 1) (n := N) (cs := (List.range N).map fun p => .ps (b + 1 + p) (g p)) (by simp [liveRow, h.1]) _ (by simp) (fun y hy => by obtain ⟨z, _, rfl⟩ := List.mem_map.1 hy; rfl) fun i p q h1 h2 => ?_
  have e : ((List.range N).map fun p => boolsV N (f p)).flatMap PV.cells = (List.range N).map fun p => boolsV N (f p) := by
    induction List.range N with
    | nil => rfl
    | cons x l ih => rw [List.map_cons, List.flatMap_cons, ih]; rfl
  rw [e] at h2
  simp only [List.getElem?_map, Option.map_eq_some_iff] at h1 h2
  obtain ⟨a, ha, rfl⟩ := h1
  obtain ⟨a', ha', rfl⟩ := h2
  rw [ha] at ha'
  cases ha'
  have hlt : i < N := by have := (List.getElem?_eq_some_iff.1 ha).1; simpa using this
  have hai : a = i := by have := (List.getElem?_eq_some_iff.1 ha).2; simpa using this.symm
  subst hai
  exact View.row1 (t := 4) (n := N) (by simp [liveRow, h.2 a hlt]) (by simp) fun c hc => by obtain ⟨q, _, rfl⟩ := List.mem_map.1 hc; exact ⟨.u _, rfl⟩

set_option maxRecDepth 20000 in
set_option maxHeartbeats 1000000 in
theorem none_in (b : Nat) (w : ByteArray) (N : Nat) (hN : N = w.size + 1) (H : PHeap) (hw : w.size ≤ 1000) :
    PIn Try.prog 127 [S w] H (fun q H' => ∃ v g, q = .ps b v ∧ MatAt H' b v g N (fun _ _ => false) ∧ ∀ j, j < b → H' j = H j) := by
  refine PIn.intro Try.func127 rfl Try.ntmps127 (by simp) (by kernel_rfl) fun W => ?_
  repeat (first | (refine PC.seq fun K hK => ?_) | (refine PC.block ?_) | (refine PC.region ?_) | (refine PL.k rfl fun KK hKK => ?_; simp (disch := omega) [go_sem, stepK]; refine hKK _ ?_; clear hKK KK) | (refine PL.k rfl fun KK hKK => ?_; simp [go_sem, stepK]; refine hKK _ ?_; clear hKK KK) | (refine PL.done hK ?_; clear hK) | (refine PC.skip (hK _ _ ?_); clear hK) | (refine PC.condT ?_ ?_; focus (simp [go_sem]; done)) | (refine PC.condF ?_ ?_; focus (simp [go_sem]; done)) | (refine PC.exit ?_; first | (refine hK _ _ ?_; clear hK) | (clear hK; refine hK _ _ ?_; clear hK) | (clear hK; clear hK; refine hK _ _ ?_; clear hK)))
  refine PL.buildSliceA b (d := 5) rfl rfl rfl (by simp) selem_122 rfl (by omega) (by unfold maxLen; omega) (ips := []) (by simp [go_sem]) (by simp [litOk]) (cs := []) rfl fun v0 H0 b0 o0 => ?_
  repeat (first | (refine PC.seq fun K hK => ?_) | (refine PC.block ?_) | (refine PC.region ?_) | (refine PL.k rfl fun KK hKK => ?_; simp (disch := omega) [go_sem, stepK]; refine hKK _ ?_; clear hKK KK) | (refine PL.k rfl fun KK hKK => ?_; simp [go_sem, stepK]; refine hKK _ ?_; clear hKK KK) | (refine PL.done hK ?_; clear hK) | (refine PC.skip (hK _ _ ?_); clear hK) | (refine PC.condT ?_ ?_; focus (simp [go_sem]; done)) | (refine PC.condF ?_ ?_; focus (simp [go_sem]; done)) | (refine PC.exit ?_; first | (refine hK _ _ ?_; clear hK) | (clear hK; refine hK _ _ ?_; clear hK) | (clear hK; clear hK; refine hK _ _ ?_; clear hK)))
  refine PC.loop (fun m F H' => ∃ (p v : Nat) (g : Nat → Nat), p ≤ N ∧ m = N - p ∧ F 0 = S w ∧ F 3 = .ps b v ∧ F 4 = I p ∧ H' b = ⟨v, some (.row 51 1 p ((List.range p).map fun i => .ps (b + 1 + i) (g i)))⟩ ∧
    (∀ i, i < p → H' (b + 1 + i) = ⟨g i, some (.row 4 1 N ((List.range N).map fun q => B false))⟩) ∧ ∀ j, j < b → H' j = H j) (m := N) ⟨0, v0, fun _ => 0, by omega, by omega, by simp [go_sem], by simp [go_sem], by simp [go_sem], b0, by omega, fun j hj => o0 j (by omega)⟩ fun m F H' hI => ?_
  obtain ⟨p, v, g, hp, hm, f0, f3, f4, h0, hr, ho⟩ := hI
  by_cases hlt : p ≤ w.size
  · repeat (first | (refine PC.seq fun K hK => ?_) | (refine PC.block ?_) | (refine PC.region ?_) | (refine PL.k rfl fun KK hKK => ?_; simp (disch := omega) [go_sem, stepK, f0, f3, f4, hlt]; refine hKK _ ?_; clear hKK KK) | (refine PL.k rfl fun KK hKK => ?_; simp [go_sem, stepK, f0, f3, f4, hlt]; refine hKK _ ?_; clear hKK KK) | (refine PL.done hK ?_; clear hK) | (refine PC.skip (hK _ _ ?_); clear hK) | (refine PC.condT ?_ ?_; focus (simp [go_sem, f0, f3, f4, hlt]; done)) | (refine PC.condF ?_ ?_; focus (simp [go_sem, f0, f3, f4, hlt]; done)) | (refine PC.exit ?_; first | (refine hK _ _ ?_; clear hK) | (clear hK; refine hK _ _ ?_; clear hK) | (clear hK; clear hK; refine hK _ _ ?_; clear hK)))
    refine PL.makeSliceA (kx := .i64) (ky := .i64) (b + 1 + p) (d := 16) (m := N) rfl rfl rfl (by simp) selem_51 rfl (by simp [go_sem, hN]) (by simp [go_sem, hN]) (by unfold maxLen; omega) (by omega) fun v1 H1 b1 o1 => ?_
    have h01 : H1 b = _ := (o1 b (by omega)).trans h0
    refine PL.buildSliceR (d := 17) rfl rfl rfl (by simp) selem_122 rfl (by omega) (ips := [(0, .ps (b + 1 + p) v1)]) (by simp [go_sem]) (by simp [litOk, go_sem, okC, leafOk, b1]) (ps := [.ps (b + 1 + p) v1]) rfl ?_
    refine PL.appendP (d := 18) (id := b) (ver := v) (m := p) (m2 := 1) (cs := (List.range p).map fun i => .ps (b + 1 + i) (g i)) (cs2 := [.ps (b + 1 + p) v1]) (px := .sl 1 [.ps (b + 1 + p) v1]) rfl rfl rfl (by simp) selem_122 (by simp [go_sem, f3]) h01 (by simp [go_sem]) (by simp [srcP, PV.cells]) (by simp [leafOk, liveRow, b1]) (by unfold maxLen; omega) (by omega) fun v2 H2 b2 o2 => ?_
    repeat (first | (refine PC.seq fun K hK => ?_) | (refine PC.block ?_) | (refine PC.region ?_) | (refine PL.k rfl fun KK hKK => ?_; simp (disch := omega) [go_sem, stepK, f0, f4]; refine hKK _ ?_; clear hKK KK) | (refine PL.k rfl fun KK hKK => ?_; simp [go_sem, stepK, f0, f4]; refine hKK _ ?_; clear hKK KK) | (refine PL.done hK ?_; clear hK) | (refine PC.skip (hK _ _ ?_); clear hK) | (refine PC.condT ?_ ?_; focus (simp [go_sem, f0, f4]; done)) | (refine PC.condF ?_ ?_; focus (simp [go_sem, f0, f4]; done)) | (refine PC.exit ?_; first | (refine hK _ _ ?_; clear hK) | (clear hK; refine hK _ _ ?_; clear hK) | (clear hK; clear hK; refine hK _ _ ?_; clear hK)))
    refine PL.nil ⟨N - (p + 1), by omega, p + 1, v2, fun i => if i = p then v1 else g i, by omega, by omega, by simp [go_sem, f0], by simp [go_sem], by simp [go_sem], ?_, ?_, ?_⟩
    · rw [b2]
      congr 3
      rw [List.range_succ, List.map_append]
      congr 1
      · apply List.map_congr_left
        intro i hi
        have : i < p := by simpa using hi
        simp [show ¬ i = p by omega]
      · simp
    · intro i hi
      by_cases e : i = p
      · subst e
        rw [o2 _ (by omega), b1]
        simp [List.map_const']
      · rw [o2 _ (by omega), o1 _ (by omega), hr i (by omega)]
        simp [e]
    · intro j hj
      rw [o2 _ (by omega), o1 _ (by omega), ho j hj]
  · repeat (first | (refine PC.seq fun K hK => ?_) | (refine PC.block ?_) | (refine PC.region ?_) | (refine PL.k rfl fun KK hKK => ?_; simp (disch := omega) [go_sem, stepK, f0, f3, f4, hlt]; refine hKK _ ?_; clear hKK KK) | (refine PL.k rfl fun KK hKK => ?_; simp [go_sem, stepK, f0, f3, f4, hlt]; refine hKK _ ?_; clear hKK KK) | (refine PL.done hK ?_; clear hK) | (refine PC.skip (hK _ _ ?_); clear hK) | (refine PC.condT ?_ ?_; focus (simp [go_sem, f0, f3, f4, hlt]; done)) | (refine PC.condF ?_ ?_; focus (simp [go_sem, f0, f3, f4, hlt]; done)) | (refine PC.exit ?_; first | (refine hK _ _ ?_; clear hK) | (clear hK; refine hK _ _ ?_; clear hK) | (clear hK; clear hK; refine hK _ _ ?_; clear hK)))
    have hpe : p = N := by omega
    subst hpe
    refine PC.ret ?_
    refine ⟨.inr rfl, .ps b v, ?_, v, g, rfl, ⟨h0, hr⟩, ho⟩
    simp [resP, resP1, Try.results127, go_sem]

theorem matV_ext {N : Nat} {f f' : Nat → Nat → Bool} (h : ∀ i j, i < N → j < N → f i j = f' i j) : matV N f = matV N f' := by
  unfold matV boolsV
  congr 1
  apply List.map_congr_left
  intro i hi
  congr 1
  apply List.map_congr_left
  intro j hj
  rw [h i j (by simpa using hi) (by simpa using hj)]

set_option maxRecDepth 20000 in
set_option maxHeartbeats 1000000 in
theorem same_ok (w : ByteArray) (N : Nat) (hN : N = w.size + 1) (hw : w.size ≤ 1000) : PCall Try.prog 108 [S w] (· = matV N fun p q => decide (p = q)) := by
  refine PCall.intro' Try.func108 rfl Try.ntmps108 (by simp) fun W => ?_
  repeat (first | (refine PC.seq fun K hK => ?_) | (refine PC.block ?_) | (refine PC.region ?_) | (refine PL.k rfl fun KK hKK => ?_; simp (disch := omega) [go_sem, stepK]; refine hKK _ ?_; clear hKK KK) | (refine PL.k rfl fun KK hKK => ?_; simp [go_sem, stepK]; refine hKK _ ?_; clear hKK KK) | (refine PL.done hK ?_; clear hK) | (refine PC.skip (hK _ _ ?_); clear hK) | (refine PC.condT ?_ ?_; focus (simp [go_sem]; done)) | (refine PC.condF ?_ ?_; focus (simp [go_sem]; done)) | (refine PC.exit ?_; first | (refine hK _ _ ?_; clear hK) | (clear hK; refine hK _ _ ?_; clear hK) | (clear hK; clear hK; refine hK _ _ ?_; clear hK)))
  refine PL.inl rfl rfl (none_in 50 w N hN _ hw) (by simp [go_sem]) (by simp [target, go_sem]) ?_
  rintro q H1 ⟨v, g, rfl, hm1, ho1⟩
  repeat (first | (refine PC.seq fun K hK => ?_) | (refine PC.block ?_) | (refine PC.region ?_) | (refine PL.k rfl fun KK hKK => ?_; simp (disch := omega) [go_sem, stepK]; refine hKK _ ?_; clear hKK KK) | (refine PL.k rfl fun KK hKK => ?_; simp [go_sem, stepK]; refine hKK _ ?_; clear hKK KK) | (refine PL.done hK ?_; clear hK) | (refine PC.skip (hK _ _ ?_); clear hK) | (refine PC.condT ?_ ?_; focus (simp [go_sem]; done)) | (refine PC.condF ?_ ?_; focus (simp [go_sem]; done)) | (refine PC.exit ?_; first | (refine hK _ _ ?_; clear hK) | (clear hK; refine hK _ _ ?_; clear hK) | (clear hK; clear hK; refine hK _ _ ?_; clear hK)))
  refine PC.loop (fun m F H' => ∃ (p : Nat), p ≤ N ∧ m = N - p ∧ F 0 = S w ∧ F 3 = .ps 50 v ∧ F 4 = I p ∧ ∃ f, MatAt H' 50 v g N f ∧ ∀ i j, f i j = decide (i = j ∧ i < p)) (m := N) ⟨0, by omega, by omega, by simp [go_sem], by simp [go_sem], by simp [go_sem], _, hm1, by simp⟩ fun m F H' hI => ?_
  obtain ⟨p, hp, hm, f0, f3, f4, f, hM, hf⟩ := hI
  by_cases hlt : p ≤ w.size
  · have hr0 := hM.1
    have hpl : p < N := by omega
    have hr1 := hM.2 p hpl
    repeat (first | (refine PC.seq fun K hK => ?_) | (refine PC.block ?_) | (refine PC.region ?_) | (refine PL.k rfl fun KK hKK => ?_; simp (disch := omega) [go_sem, stepK, f0, f3, f4, hlt, hr0, hr1, hpl]; refine hKK _ ?_; clear hKK KK) | (refine PL.k rfl fun KK hKK => ?_; simp [go_sem, stepK, f0, f3, f4, hlt, hr0, hr1, hpl]; refine hKK _ ?_; clear hKK KK) | (refine PL.done hK ?_; clear hK) | (refine PC.skip (hK _ _ ?_); clear hK) | (refine PC.condT ?_ ?_; focus (simp [go_sem, f0, f3, f4, hlt, hr0, hr1, hpl]; done)) | (refine PC.condF ?_ ?_; focus (simp [go_sem, f0, f3, f4, hlt, hr0, hr1, hpl]; done)) | (refine PC.exit ?_; first | (refine hK _ _ ?_; clear hK) | (clear hK; refine hK _ _ ?_; clear hK) | (clear hK; clear hK; refine hK _ _ ?_; clear hK)))
    refine PL.storeR (id := 50 + 1 + p) rfl rfl (by simp [dstOk]) (by simp [go_sem]) hr1 asz_4 (v := B true) (by simp [go_sem]) (by simp [go_sem]) rfl rfl (by simp; omega) (setMany_range hpl _ _) fun H2 b2 o2 => ?_
    repeat (first | (refine PC.seq fun K hK => ?_) | (refine PC.block ?_) | (refine PC.region ?_) | (refine PL.k rfl fun KK hKK => ?_; simp (disch := omega) [go_sem, stepK, f0, f4]; refine hKK _ ?_; clear hKK KK) | (refine PL.k rfl fun KK hKK => ?_; simp [go_sem, stepK, f0, f4]; refine hKK _ ?_; clear hKK KK) | (refine PL.done hK ?_; clear hK) | (refine PC.skip (hK _ _ ?_); clear hK) | (refine PC.condT ?_ ?_; focus (simp [go_sem, f0, f4]; done)) | (refine PC.condF ?_ ?_; focus (simp [go_sem, f0, f4]; done)) | (refine PC.exit ?_; first | (refine hK _ _ ?_; clear hK) | (clear hK; refine hK _ _ ?_; clear hK) | (clear hK; clear hK; refine hK _ _ ?_; clear hK)))
    refine PL.nil ⟨N - (p + 1), by omega, p + 1, by omega, by omega, by simp [go_sem, f0], by simp [go_sem, f3], by simp [go_sem], _, hM.set hpl b2 o2, ?_⟩
    intro i j
    unfold updM
    split
    · rename_i h; obtain ⟨rfl, rfl⟩ := h; simp
    · rename_i h
      rw [hf]
      by_cases e : i = j
      · subst e
        have : ¬ i = p := fun h' => h ⟨h', h'⟩
        simp; omega
      · simp [e]
  · repeat (first | (refine PC.seq fun K hK => ?_) | (refine PC.block ?_) | (refine PC.region ?_) | (refine PL.k rfl fun KK hKK => ?_; simp (disch := omega) [go_sem, stepK, f0, f3, f4, hlt]; refine hKK _ ?_; clear hKK KK) | (refine PL.k rfl fun KK hKK => ?_; simp [go_sem, stepK, f0, f3, f4, hlt]; refine hKK _ ?_; clear hKK KK) | (refine PL.done hK ?_; clear hK) | (refine PC.skip (hK _ _ ?_); clear hK) | (refine PC.condT ?_ ?_; focus (simp [go_sem, f0, f3, f4, hlt]; done)) | (refine PC.condF ?_ ?_; focus (simp [go_sem, f0, f3, f4, hlt]; done)) | (refine PC.exit ?_; first | (refine hK _ _ ?_; clear hK) | (clear hK; refine hK _ _ ?_; clear hK) | (clear hK; clear hK; refine hK _ _ ?_; clear hK)))
    have hff : matV N f = matV N fun p q => decide (p = q) := matV_ext fun i j hi hj => by rw [hf]; simp; omega
    refine PC.ret ?_
    refine ⟨.inr rfl, .ps 50 v, _, ?_, hM.view, matV_noP _ _, hff⟩
    simp [resP, resP1, Try.results108, go_sem]
end Go.Proofs.Ytficeeaaaijgcaa

/-
  Chapter 9's reference: set, both, behind, again, over pure values.
-/
namespace Go.Proofs.Ytficeeaaaijgcaa
open Go Go.RowKit L
set_option linter.unusedVariables false
set_option linter.unusedSimpArgs false

def byteAt (w : ByteArray) (i : Nat) : Nat := (w.data.getD i 0).toNat
theorem byteAt_lt (w : ByteArray) (i : Nat) : byteAt w i < 256 := UInt8.toNat_lt _
theorem byte_get {w : ByteArray} {i : Nat} (h : i < w.size) : w[i].toNat = byteAt w i := by
  unfold byteAt
  have : w.data.getD i 0 = w[i] := by
    have h' : i < w.data.size := h
    show (if h : i < w.data.size then w.data[i] else 0) = w[i]
    rw [dif_pos h']
    rfl
  rw [this]

def setF (x : Rx) (w : ByteArray) (p q : Nat) : Bool := decide (q = p + 1 ∧ p < w.size) && hasS x (byteAt w p)

set_option maxRecDepth 20000 in
set_option maxHeartbeats 1000000 in
theorem set_ok (x : Rx) (w : ByteArray) (N : Nat) (hN : N = w.size + 1) (hw : w.size ≤ 1000) : PCall Try.prog 109 [encS x, S w] (· = matV N (setF x w)) := by
  refine PCall.intro' Try.func109 rfl Try.ntmps109 (by simp) fun W => ?_
  refine PC.seq fun K hK => ?_
  refine PC.region ?_
  refine PL.boxA 40 (d := 2) rfl rfl rfl (by simp) (v := encS x) (by simp [go_sem]) (by simp [go_sem, encS, W64]) rfl fun v0 H0 b0 o0 => ?_
  repeat (first | (refine PC.seq fun K hK => ?_) | (refine PC.block ?_) | (refine PC.region ?_) | (refine PL.k rfl fun KK hKK => ?_; simp (disch := omega) [go_sem, stepK]; refine hKK _ ?_; clear hKK KK) | (refine PL.k rfl fun KK hKK => ?_; simp [go_sem, stepK]; refine hKK _ ?_; clear hKK KK) | (refine PL.g rfl rfl fun KK hKK => ?_; simp (disch := omega) [go_sem, L.stepG]; refine hKK _ ?_; clear hKK KK) | (refine PL.g rfl rfl fun KK hKK => ?_; simp [go_sem, L.stepG]; refine hKK _ ?_; clear hKK KK) | (refine PL.done hK ?_; clear hK) | (refine PC.skip (hK _ _ ?_); clear hK) | (refine PC.condT ?_ ?_; focus (simp [go_sem]; done)) | (refine PC.condF ?_ ?_; focus (simp [go_sem]; done)) | (refine PC.exit ?_; first | (refine hK _ _ ?_; clear hK) | (clear hK; refine hK _ _ ?_; clear hK) | (clear hK; clear hK; refine hK _ _ ?_; clear hK)))
  refine PL.inl rfl rfl (none_in 50 w N hN _ hw) (by simp [go_sem]) (by simp [target, go_sem]) ?_
  rintro q H1 ⟨v, g, rfl, hm1, ho1⟩
  have b1 : H1 40 = _ := (ho1 40 (by omega)).trans b0
  repeat (first | (refine PC.seq fun K hK => ?_) | (refine PC.block ?_) | (refine PC.region ?_) | (refine PL.k rfl fun KK hKK => ?_; simp (disch := omega) [go_sem, stepK]; refine hKK _ ?_; clear hKK KK) | (refine PL.k rfl fun KK hKK => ?_; simp [go_sem, stepK]; refine hKK _ ?_; clear hKK KK) | (refine PL.g rfl rfl fun KK hKK => ?_; simp (disch := omega) [go_sem, L.stepG]; refine hKK _ ?_; clear hKK KK) | (refine PL.g rfl rfl fun KK hKK => ?_; simp [go_sem, L.stepG]; refine hKK _ ?_; clear hKK KK) | (refine PL.done hK ?_; clear hK) | (refine PC.skip (hK _ _ ?_); clear hK) | (refine PC.condT ?_ ?_; focus (simp [go_sem]; done)) | (refine PC.condF ?_ ?_; focus (simp [go_sem]; done)) | (refine PC.exit ?_; first | (refine hK _ _ ?_; clear hK) | (clear hK; refine hK _ _ ?_; clear hK) | (clear hK; clear hK; refine hK _ _ ?_; clear hK)))
  refine PC.loop (fun m F H' => ∃ (p : Nat), p ≤ w.size ∧ m = w.size - p ∧ F 1 = S w ∧ F 2 = .pp 40 0 v0 ∧ F 5 = .ps 50 v ∧ F 6 = I p ∧ H' 40 = ⟨v0, some (.box 28 (encS x).cells)⟩ ∧ ∃ f, MatAt H' 50 v g N f ∧ ∀ i j, f i j = (decide (i < p) && setF x w i j)) (m := w.size) ⟨0, by omega, by omega, by simp [go_sem], by simp [go_sem], by simp [go_sem], by simp [go_sem], b1, _, hm1, by simp⟩ fun m F H' hI => ?_
  obtain ⟨p, hp, hm, f1, f2, f5, f6, h40, f, hM, hf⟩ := hI
  by_cases hlt : p < w.size
  · have hr0 := hM.1
    have hpl : p < N := by omega
    have hpl1 : p + 1 < N := by omega
    have hr1 := hM.2 p hpl
    have hby := byte_get hlt
    repeat (first | (refine PC.seq fun K hK => ?_) | (refine PC.block ?_) | (refine PC.region ?_) | (refine PL.k rfl fun KK hKK => ?_; simp (disch := omega) [go_sem, stepK, f1, f2, f5, f6, hlt]; refine hKK _ ?_; clear hKK KK) | (refine PL.k rfl fun KK hKK => ?_; simp [go_sem, stepK, f1, f2, f5, f6, hlt]; refine hKK _ ?_; clear hKK KK) | (refine PL.g rfl rfl fun KK hKK => ?_; simp (disch := omega) [go_sem, L.stepG, f1, f2, f5, f6, hlt]; refine hKK _ ?_; clear hKK KK) | (refine PL.g rfl rfl fun KK hKK => ?_; simp [go_sem, L.stepG, f1, f2, f5, f6, hlt]; refine hKK _ ?_; clear hKK KK) | (refine PL.done hK ?_; clear hK) | (refine PC.skip (hK _ _ ?_); clear hK) | (refine PC.condT ?_ ?_; focus (simp [go_sem, f1, f2, f5, f6, hlt]; done)) | (refine PC.condF ?_ ?_; focus (simp [go_sem, f1, f2, f5, f6, hlt]; done)) | (refine PC.exit ?_; first | (refine hK _ _ ?_; clear hK) | (clear hK; refine hK _ _ ?_; clear hK) | (clear hK; clear hK; refine hK _ _ ?_; clear hK)))
    refine PC.regionT 11 mixed (by kernel_rfl) ?_
    repeat (first | (refine QF.k rfl fun KK hKK => ?_; simp (disch := omega) [go_sem, stepK, f1, f2, f5, f6, hlt, hr0, hr1, hpl, h40, encS, W64, hby]; refine hKK _ ?_; clear hKK KK) | (refine QF.k rfl fun KK hKK => ?_; simp [go_sem, stepK, f1, f2, f5, f6, hlt, hr0, hr1, hpl, h40, encS, W64, hby]; refine hKK _ ?_; clear hKK KK) | (refine QF.g rfl rfl fun KK hKK => ?_; simp (disch := omega) [go_sem, L.stepG, f1, f2, f5, f6, hlt, hr0, hr1, hpl, h40, encS, W64, hby]; refine hKK _ ?_; clear hKK KK) | (refine QF.g rfl rfl fun KK hKK => ?_; simp [go_sem, L.stepG, f1, f2, f5, f6, hlt, hr0, hr1, hpl, h40, encS, W64, hby]; refine hKK _ ?_; clear hKK KK))
    refine QF.callA rfl rfl (by kernel_rfl) (refHas_ok x (byteAt w p) (byteAt_lt _ _)) (by simp [go_sem]) (by simp [go_sem]) (by simp [go_sem, encS, W64]) ?_
    refine QF.nil ?_
    repeat (first | (refine PC.seq fun K hK => ?_) | (refine PC.block ?_) | (refine PC.region ?_) | (refine PL.k rfl fun KK hKK => ?_; simp (disch := omega) [go_sem, stepK, hr0, hr1, hpl, hpl1]; refine hKK _ ?_; clear hKK KK) | (refine PL.k rfl fun KK hKK => ?_; simp [go_sem, stepK, hr0, hr1, hpl, hpl1]; refine hKK _ ?_; clear hKK KK) | (refine PL.g rfl rfl fun KK hKK => ?_; simp (disch := omega) [go_sem, L.stepG, hr0, hr1, hpl, hpl1]; refine hKK _ ?_; clear hKK KK) | (refine PL.g rfl rfl fun KK hKK => ?_; simp [go_sem, L.stepG, hr0, hr1, hpl, hpl1]; refine hKK _ ?_; clear hKK KK) | (refine PL.done hK ?_; clear hK) | (refine PC.skip (hK _ _ ?_); clear hK) | (refine PC.condT ?_ ?_; focus (simp [go_sem, hr0, hr1, hpl, hpl1]; done)) | (refine PC.condF ?_ ?_; focus (simp [go_sem, hr0, hr1, hpl, hpl1]; done)) | (refine PC.exit ?_; first | (refine hK _ _ ?_; clear hK) | (clear hK; refine hK _ _ ?_; clear hK) | (clear hK; clear hK; refine hK _ _ ?_; clear hK)))
    refine PL.storeR (id := 50 + 1 + p) rfl rfl (by simp [dstOk]) (by simp [go_sem]) hr1 asz_4 (v := B (hasS x (byteAt w p))) (by simp [go_sem]) (by simp [go_sem]) rfl rfl (by simp; omega) (setMany_range hpl1 _ _) fun H2 b2 o2 => ?_
    repeat (first | (refine PC.seq fun K hK => ?_) | (refine PC.block ?_) | (refine PC.region ?_) | (refine PL.k rfl fun KK hKK => ?_; simp (disch := omega) [go_sem, stepK, f6]; refine hKK _ ?_; clear hKK KK) | (refine PL.k rfl fun KK hKK => ?_; simp [go_sem, stepK, f6]; refine hKK _ ?_; clear hKK KK) | (refine PL.g rfl rfl fun KK hKK => ?_; simp (disch := omega) [go_sem, L.stepG, f6]; refine hKK _ ?_; clear hKK KK) | (refine PL.g rfl rfl fun KK hKK => ?_; simp [go_sem, L.stepG, f6]; refine hKK _ ?_; clear hKK KK) | (refine PL.done hK ?_; clear hK) | (refine PC.skip (hK _ _ ?_); clear hK) | (refine PC.condT ?_ ?_; focus (simp [go_sem, f6]; done)) | (refine PC.condF ?_ ?_; focus (simp [go_sem, f6]; done)) | (refine PC.exit ?_; first | (refine hK _ _ ?_; clear hK) | (clear hK; refine hK _ _ ?_; clear hK) | (clear hK; clear hK; refine hK _ _ ?_; clear hK)))
    refine PL.nil ⟨w.size - (p + 1), by omega, p + 1, by omega, by omega, by simp [go_sem, f1], by simp [go_sem, f2], by simp [go_sem, f5], by simp [go_sem], by rw [o2 40 (by omega)]; exact h40, _, hM.set hpl b2 o2, ?_⟩
    intro i j
    unfold updM
    split
    · rename_i h; obtain ⟨rfl, rfl⟩ := h; simp [setF, hlt]
    · rename_i h
      rw [hf]
      by_cases e : i = p
      · subst e
        have : ¬ j = i + 1 := fun h' => h ⟨rfl, h'⟩
        simp [setF, this]
      · congr 1; simp; omega
  · repeat (first | (refine PC.seq fun K hK => ?_) | (refine PC.block ?_) | (refine PC.region ?_) | (refine PL.k rfl fun KK hKK => ?_; simp (disch := omega) [go_sem, stepK, f1, f2, f5, f6, hlt]; refine hKK _ ?_; clear hKK KK) | (refine PL.k rfl fun KK hKK => ?_; simp [go_sem, stepK, f1, f2, f5, f6, hlt]; refine hKK _ ?_; clear hKK KK) | (refine PL.g rfl rfl fun KK hKK => ?_; simp (disch := omega) [go_sem, L.stepG, f1, f2, f5, f6, hlt]; refine hKK _ ?_; clear hKK KK) | (refine PL.g rfl rfl fun KK hKK => ?_; simp [go_sem, L.stepG, f1, f2, f5, f6, hlt]; refine hKK _ ?_; clear hKK KK) | (refine PL.done hK ?_; clear hK) | (refine PC.skip (hK _ _ ?_); clear hK) | (refine PC.condT ?_ ?_; focus (simp [go_sem, f1, f2, f5, f6, hlt]; done)) | (refine PC.condF ?_ ?_; focus (simp [go_sem, f1, f2, f5, f6, hlt]; done)) | (refine PC.exit ?_; first | (refine hK _ _ ?_; clear hK) | (clear hK; refine hK _ _ ?_; clear hK) | (clear hK; clear hK; refine hK _ _ ?_; clear hK)))
    have hff : matV N f = matV N (setF x w) := matV_ext fun i j hi hj => by
      rw [hf]
      by_cases e : i < w.size
      · simp [show i < p by omega]
      · simp [setF, e]
    refine PC.ret ?_
    refine ⟨.inr rfl, .ps 50 v, _, ?_, hM.view, matV_noP _ _, hff⟩
    simp [resP, resP1, Try.results109, go_sem]

set_option maxRecDepth 20000 in
set_option maxHeartbeats 1000000 in
theorem both_ok (fa fb : Nat → Nat → Bool) (w : ByteArray) (N : Nat) (hN : N = w.size + 1) (hw : w.size ≤ 1000) : PCall Try.prog 111 [matV N fa, matV N fb, S w] (· = matV N fun p q => fa p q || fb p q) := by
  refine PCall.intro' Try.func111 rfl Try.ntmps111 (by simp) fun W => ?_
  repeat (first | (refine PC.seq fun K hK => ?_) | (refine PC.block ?_) | (refine PC.region ?_) | (refine PL.k rfl fun KK hKK => ?_; simp (disch := omega) [go_sem, stepK]; refine hKK _ ?_; clear hKK KK) | (refine PL.k rfl fun KK hKK => ?_; simp [go_sem, stepK]; refine hKK _ ?_; clear hKK KK) | (refine PL.g rfl rfl fun KK hKK => ?_; simp (disch := omega) [go_sem, L.stepG]; refine hKK _ ?_; clear hKK KK) | (refine PL.g rfl rfl fun KK hKK => ?_; simp [go_sem, L.stepG]; refine hKK _ ?_; clear hKK KK) | (refine PL.done hK ?_; clear hK) | (refine PC.skip (hK _ _ ?_); clear hK) | (refine PC.condT ?_ ?_; focus (simp [go_sem]; done)) | (refine PC.condF ?_ ?_; focus (simp [go_sem]; done)) | (refine PC.exit ?_; first | (refine hK _ _ ?_; clear hK) | (clear hK; refine hK _ _ ?_; clear hK) | (clear hK; clear hK; refine hK _ _ ?_; clear hK)))
  refine PL.inl rfl rfl (none_in 50 w N hN _ hw) (by simp [go_sem]) (by simp [target, go_sem]) ?_
  rintro q H1 ⟨v, g, rfl, hm1, ho1⟩
  repeat (first | (refine PC.seq fun K hK => ?_) | (refine PC.block ?_) | (refine PC.region ?_) | (refine PL.k rfl fun KK hKK => ?_; simp (disch := omega) [go_sem, stepK]; refine hKK _ ?_; clear hKK KK) | (refine PL.k rfl fun KK hKK => ?_; simp [go_sem, stepK]; refine hKK _ ?_; clear hKK KK) | (refine PL.g rfl rfl fun KK hKK => ?_; simp (disch := omega) [go_sem, L.stepG]; refine hKK _ ?_; clear hKK KK) | (refine PL.g rfl rfl fun KK hKK => ?_; simp [go_sem, L.stepG]; refine hKK _ ?_; clear hKK KK) | (refine PL.done hK ?_; clear hK) | (refine PC.skip (hK _ _ ?_); clear hK) | (refine PC.condT ?_ ?_; focus (simp [go_sem]; done)) | (refine PC.condF ?_ ?_; focus (simp [go_sem]; done)) | (refine PC.exit ?_; first | (refine hK _ _ ?_; clear hK) | (clear hK; refine hK _ _ ?_; clear hK) | (clear hK; clear hK; refine hK _ _ ?_; clear hK)))
  refine PC.loop (fun m F H' => ∃ (p : Nat), p ≤ N ∧ m = N - p ∧ F 0 = matV N fa ∧ F 1 = matV N fb ∧ F 2 = S w ∧ F 7 = .ps 50 v ∧ F 8 = I p ∧ ∃ f, MatAt H' 50 v g N f ∧ ∀ i j, i < p → j < N → f i j = (fa i j || fb i j)) (m := N) ⟨0, by omega, by omega, by simp [go_sem], by simp [go_sem], by simp [go_sem], by simp [go_sem], by simp [go_sem], _, hm1, by omega⟩ fun m F H' hI => ?_
  obtain ⟨p, hp, hm, f0, f1, f2, f7, f8, f, hM, hf⟩ := hI
  by_cases hlt : p ≤ w.size
  · have hpl : p < N := by omega
    repeat (first | (refine PC.seq fun K hK => ?_) | (refine PC.block ?_) | (refine PC.region ?_) | (refine PL.k rfl fun KK hKK => ?_; simp (disch := omega) [go_sem, stepK, f2, f8, hlt]; refine hKK _ ?_; clear hKK KK) | (refine PL.k rfl fun KK hKK => ?_; simp [go_sem, stepK, f2, f8, hlt]; refine hKK _ ?_; clear hKK KK) | (refine PL.g rfl rfl fun KK hKK => ?_; simp (disch := omega) [go_sem, L.stepG, f2, f8, hlt]; refine hKK _ ?_; clear hKK KK) | (refine PL.g rfl rfl fun KK hKK => ?_; simp [go_sem, L.stepG, f2, f8, hlt]; refine hKK _ ?_; clear hKK KK) | (refine PL.done hK ?_; clear hK) | (refine PC.skip (hK _ _ ?_); clear hK) | (refine PC.condT ?_ ?_; focus (simp [go_sem, f2, f8, hlt]; done)) | (refine PC.condF ?_ ?_; focus (simp [go_sem, f2, f8, hlt]; done)) | (refine PC.exit ?_; first | (refine hK _ _ ?_; clear hK) | (clear hK; refine hK _ _ ?_; clear hK) | (clear hK; clear hK; refine hK _ _ ?_; clear hK)))
    refine PC.loop (fun m F H' => ∃ (q : Nat), q ≤ N ∧ m = N - q ∧ F 0 = matV N fa ∧ F 1 = matV N fb ∧ F 2 = S w ∧ F 7 = .ps 50 v ∧ F 8 = I p ∧ F 9 = I q ∧ ∃ f, MatAt H' 50 v g N f ∧ (∀ i j, i < p → j < N → f i j = (fa i j || fb i j)) ∧ ∀ j, j < q → f p j = (fa p j || fb p j)) (m := N) ⟨0, by omega, by omega, by simp [go_sem, f0], by simp [go_sem, f1], by simp [go_sem, f2], by simp [go_sem, f7], by simp [go_sem, f8], by simp [go_sem], _, hM, hf, by omega⟩ fun m2 F H' hI => ?_
    clear f0 f1 f2 f7 f8 hM hf f
    obtain ⟨q, hq, hm2, f0, f1, f2, f7, f8, f9, f, hM, hf, hfq⟩ := hI
    by_cases hlq : q ≤ w.size
    · have hr0 := hM.1
      have hql : q < N := by omega
      have hr1 := hM.2 p hpl
      repeat (first | (refine PC.seq fun K hK => ?_) | (refine PC.block ?_) | (refine PC.region ?_) | (refine PL.k rfl fun KK hKK => ?_; simp (disch := omega) [go_sem, stepK, f2, f9, hlq]; refine hKK _ ?_; clear hKK KK) | (refine PL.k rfl fun KK hKK => ?_; simp [go_sem, stepK, f2, f9, hlq]; refine hKK _ ?_; clear hKK KK) | (refine PL.g rfl rfl fun KK hKK => ?_; simp (disch := omega) [go_sem, L.stepG, f2, f9, hlq]; refine hKK _ ?_; clear hKK KK) | (refine PL.g rfl rfl fun KK hKK => ?_; simp [go_sem, L.stepG, f2, f9, hlq]; refine hKK _ ?_; clear hKK KK) | (refine PL.done hK ?_; clear hK) | (refine PC.skip (hK _ _ ?_); clear hK) | (refine PC.condT ?_ ?_; focus (simp [go_sem, f2, f9, hlq]; done)) | (refine PC.condF ?_ ?_; focus (simp [go_sem, f2, f9, hlq]; done)) | (refine PC.exit ?_; first | (refine hK _ _ ?_; clear hK) | (clear hK; refine hK _ _ ?_; clear hK) | (clear hK; clear hK; refine hK _ _ ?_; clear hK)))
      refine PC.regionT 21 mixed (by kernel_rfl) ?_
      cases hfa : fa p q
      all_goals
        repeat (first | (refine QF.k rfl fun KK hKK => ?_; simp (disch := omega) [go_sem, stepK, f0, f1, f7, f8, f9, hr0, hr1, hpl, hql, matV, boolsV, hfa]; refine hKK _ ?_; clear hKK KK) | (refine QF.k rfl fun KK hKK => ?_; simp [go_sem, stepK, f0, f1, f7, f8, f9, hr0, hr1, hpl, hql, matV, boolsV, hfa]; refine hKK _ ?_; clear hKK KK) | (refine QF.g rfl rfl fun KK hKK => ?_; simp (disch := omega) [go_sem, L.stepG, f0, f1, f7, f8, f9, hr0, hr1, hpl, hql, matV, boolsV, hfa]; refine hKK _ ?_; clear hKK KK) | (refine QF.g rfl rfl fun KK hKK => ?_; simp [go_sem, L.stepG, f0, f1, f7, f8, f9, hr0, hr1, hpl, hql, matV, boolsV, hfa]; refine hKK _ ?_; clear hKK KK))
        refine QF.nil ?_
        repeat (first | (refine PC.seq fun K hK => ?_) | (refine PC.block ?_) | (refine PC.region ?_) | (refine PL.k rfl fun KK hKK => ?_; simp (disch := omega) [go_sem, stepK, hr0, hr1, hpl, hql]; refine hKK _ ?_; clear hKK KK) | (refine PL.k rfl fun KK hKK => ?_; simp [go_sem, stepK, hr0, hr1, hpl, hql]; refine hKK _ ?_; clear hKK KK) | (refine PL.g rfl rfl fun KK hKK => ?_; simp (disch := omega) [go_sem, L.stepG, hr0, hr1, hpl, hql]; refine hKK _ ?_; clear hKK KK) | (refine PL.g rfl rfl fun KK hKK => ?_; simp [go_sem, L.stepG, hr0, hr1, hpl, hql]; refine hKK _ ?_; clear hKK KK) | (refine PL.done hK ?_; clear hK) | (refine PC.skip (hK _ _ ?_); clear hK) | (refine PC.condT ?_ ?_; focus (simp [go_sem, hr0, hr1, hpl, hql]; done)) | (refine PC.condF ?_ ?_; focus (simp [go_sem, hr0, hr1, hpl, hql]; done)) | (refine PC.exit ?_; first | (refine hK _ _ ?_; clear hK) | (clear hK; refine hK _ _ ?_; clear hK) | (clear hK; clear hK; refine hK _ _ ?_; clear hK)))
      · refine PL.storeR (id := 50 + 1 + p) rfl rfl (by simp [dstOk]) (by simp [go_sem]) hr1 asz_4 (v := B (fa p q || fb p q)) (by simp [go_sem, hfa]) (by simp [go_sem]) rfl rfl (by simp; omega) (setMany_range hql _ _) fun H2 b2 o2 => ?_
        repeat (first | (refine PC.seq fun K hK => ?_) | (refine PC.block ?_) | (refine PC.region ?_) | (refine PL.k rfl fun KK hKK => ?_; simp (disch := omega) [go_sem, stepK, f9]; refine hKK _ ?_; clear hKK KK) | (refine PL.k rfl fun KK hKK => ?_; simp [go_sem, stepK, f9]; refine hKK _ ?_; clear hKK KK) | (refine PL.g rfl rfl fun KK hKK => ?_; simp (disch := omega) [go_sem, L.stepG, f9]; refine hKK _ ?_; clear hKK KK) | (refine PL.g rfl rfl fun KK hKK => ?_; simp [go_sem, L.stepG, f9]; refine hKK _ ?_; clear hKK KK) | (refine PL.done hK ?_; clear hK) | (refine PC.skip (hK _ _ ?_); clear hK) | (refine PC.condT ?_ ?_; focus (simp [go_sem, f9]; done)) | (refine PC.condF ?_ ?_; focus (simp [go_sem, f9]; done)) | (refine PC.exit ?_; first | (refine hK _ _ ?_; clear hK) | (clear hK; refine hK _ _ ?_; clear hK) | (clear hK; clear hK; refine hK _ _ ?_; clear hK)))
        refine PL.nil ⟨N - (q + 1), by omega, q + 1, by omega, by omega, by simp [go_sem, f0], by simp [go_sem, f1], by simp [go_sem, f2], by simp [go_sem, f7], by simp [go_sem, f8], by simp [go_sem], _, hM.set hpl b2 o2, ?_, ?_⟩
        · intro i j hi hj; unfold updM; rw [if_neg (by omega)]; exact hf i j hi hj
        · intro j hj; unfold updM; split
          · rename_i h; obtain ⟨_, rfl⟩ := h; rfl
          · exact hfq j (by omega)
      · refine PL.storeR (id := 50 + 1 + p) rfl rfl (by simp [dstOk]) (by simp [go_sem]) hr1 asz_4 (v := B (fa p q || fb p q)) (by simp [go_sem, hfa]) (by simp [go_sem]) rfl rfl (by simp; omega) (setMany_range hql _ _) fun H2 b2 o2 => ?_
        repeat (first | (refine PC.seq fun K hK => ?_) | (refine PC.block ?_) | (refine PC.region ?_) | (refine PL.k rfl fun KK hKK => ?_; simp (disch := omega) [go_sem, stepK, f9]; refine hKK _ ?_; clear hKK KK) | (refine PL.k rfl fun KK hKK => ?_; simp [go_sem, stepK, f9]; refine hKK _ ?_; clear hKK KK) | (refine PL.g rfl rfl fun KK hKK => ?_; simp (disch := omega) [go_sem, L.stepG, f9]; refine hKK _ ?_; clear hKK KK) | (refine PL.g rfl rfl fun KK hKK => ?_; simp [go_sem, L.stepG, f9]; refine hKK _ ?_; clear hKK KK) | (refine PL.done hK ?_; clear hK) | (refine PC.skip (hK _ _ ?_); clear hK) | (refine PC.condT ?_ ?_; focus (simp [go_sem, f9]; done)) | (refine PC.condF ?_ ?_; focus (simp [go_sem, f9]; done)) | (refine PC.exit ?_; first | (refine hK _ _ ?_; clear hK) | (clear hK; refine hK _ _ ?_; clear hK) | (clear hK; clear hK; refine hK _ _ ?_; clear hK)))
        refine PL.nil ⟨N - (q + 1), by omega, q + 1, by omega, by omega, by simp [go_sem, f0], by simp [go_sem, f1], by simp [go_sem, f2], by simp [go_sem, f7], by simp [go_sem, f8], by simp [go_sem], _, hM.set hpl b2 o2, ?_, ?_⟩
        · intro i j hi hj; unfold updM; rw [if_neg (by omega)]; exact hf i j hi hj
        · intro j hj; unfold updM; split
          · rename_i h; obtain ⟨_, rfl⟩ := h; rfl
          · exact hfq j (by omega)
    · repeat (first | (refine PC.seq fun K hK => ?_) | (refine PC.block ?_) | (refine PC.region ?_) | (refine PL.k rfl fun KK hKK => ?_; simp (disch := omega) [go_sem, stepK, f2, f8, f9, hlq]; refine hKK _ ?_; clear hKK KK) | (refine PL.k rfl fun KK hKK => ?_; simp [go_sem, stepK, f2, f8, f9, hlq]; refine hKK _ ?_; clear hKK KK) | (refine PL.g rfl rfl fun KK hKK => ?_; simp (disch := omega) [go_sem, L.stepG, f2, f8, f9, hlq]; refine hKK _ ?_; clear hKK KK) | (refine PL.g rfl rfl fun KK hKK => ?_; simp [go_sem, L.stepG, f2, f8, f9, hlq]; refine hKK _ ?_; clear hKK KK) | (refine PL.done hK ?_; clear hK) | (refine PC.skip (hK _ _ ?_); clear hK) | (refine PC.condT ?_ ?_; focus (simp [go_sem, f2, f8, f9, hlq]; done)) | (refine PC.condF ?_ ?_; focus (simp [go_sem, f2, f8, f9, hlq]; done)) | (refine PC.exit ?_; first | (refine hK _ _ ?_; clear hK) | (clear hK; refine hK _ _ ?_; clear hK) | (clear hK; clear hK; refine hK _ _ ?_; clear hK)))
      refine PL.nil ⟨N - (p + 1), by omega, p + 1, by omega, by omega, by simp [go_sem, f0], by simp [go_sem, f1], by simp [go_sem, f2], by simp [go_sem, f7], by simp [go_sem], f, hM, fun i j hi hj => ?_⟩
      by_cases e : i = p
      · subst e; exact hfq j (by omega)
      · exact hf i j (by omega) hj
  · repeat (first | (refine PC.seq fun K hK => ?_) | (refine PC.block ?_) | (refine PC.region ?_) | (refine PL.k rfl fun KK hKK => ?_; simp (disch := omega) [go_sem, stepK, f2, f7, f8, hlt]; refine hKK _ ?_; clear hKK KK) | (refine PL.k rfl fun KK hKK => ?_; simp [go_sem, stepK, f2, f7, f8, hlt]; refine hKK _ ?_; clear hKK KK) | (refine PL.g rfl rfl fun KK hKK => ?_; simp (disch := omega) [go_sem, L.stepG, f2, f7, f8, hlt]; refine hKK _ ?_; clear hKK KK) | (refine PL.g rfl rfl fun KK hKK => ?_; simp [go_sem, L.stepG, f2, f7, f8, hlt]; refine hKK _ ?_; clear hKK KK) | (refine PL.done hK ?_; clear hK) | (refine PC.skip (hK _ _ ?_); clear hK) | (refine PC.condT ?_ ?_; focus (simp [go_sem, f2, f7, f8, hlt]; done)) | (refine PC.condF ?_ ?_; focus (simp [go_sem, f2, f7, f8, hlt]; done)) | (refine PC.exit ?_; first | (refine hK _ _ ?_; clear hK) | (clear hK; refine hK _ _ ?_; clear hK) | (clear hK; clear hK; refine hK _ _ ?_; clear hK)))
    have hff : matV N f = matV N fun p q => fa p q || fb p q := matV_ext fun i j hi hj => hf i j (by omega) hj
    refine PC.ret ?_
    refine ⟨.inr rfl, .ps 50 v, _, ?_, hM.view, matV_noP _ _, hff⟩
    simp [resP, resP1, Try.results111, go_sem]
end Go.Proofs.Ytficeeaaaijgcaa

/-
  Chapter 9's reference: behind, again, over pure values.
-/
namespace Go.Proofs.Ytficeeaaaijgcaa
open Go Go.RowKit L
set_option linter.unusedVariables false
set_option linter.unusedSimpArgs false

/-- where b leads behind a, by places below k -/
def behK (fa fb : Nat → Nat → Bool) (k p q : Nat) : Bool := (List.range k).any fun r => decide (p ≤ r ∧ r ≤ q) && fa p r && fb r q
theorem behK_succ (fa fb : Nat → Nat → Bool) (k p q : Nat) : behK fa fb (k + 1) p q = (behK fa fb k p q || (decide (p ≤ k ∧ k ≤ q) && fa p k && fb k q)) := by simp [behK, List.range_succ]
theorem behK_le (fa fb : Nat → Nat → Bool) {k p q : Nat} (h : k ≤ p) : behK fa fb k p q = false := by
  simp [behK]; intro r hr h1; omega

set_option maxRecDepth 20000 in
set_option maxHeartbeats 2000000 in
theorem behind_ok (fa fb : Nat → Nat → Bool) (w : ByteArray) (N : Nat) (hN : N = w.size + 1) (hw : w.size ≤ 1000) : PCall Try.prog 110 [matV N fa, matV N fb, S w] (· = matV N (behK fa fb N)) := by
  refine PCall.intro' Try.func110 rfl Try.ntmps110 (by simp) fun W => ?_
  repeat (first | (refine PC.seq fun K hK => ?_) | (refine PC.block ?_) | (refine PC.region ?_) | (refine PL.k rfl fun KK hKK => ?_; simp (disch := omega) [go_sem, stepK]; refine hKK _ ?_; clear hKK KK) | (refine PL.k rfl fun KK hKK => ?_; simp [go_sem, stepK]; refine hKK _ ?_; clear hKK KK) | (refine PL.g rfl rfl fun KK hKK => ?_; simp (disch := omega) [go_sem, L.stepG]; refine hKK _ ?_; clear hKK KK) | (refine PL.g rfl rfl fun KK hKK => ?_; simp [go_sem, L.stepG]; refine hKK _ ?_; clear hKK KK) | (refine PL.done hK ?_; clear hK) | (refine PC.skip (hK _ _ ?_); clear hK) | (refine PC.condT ?_ ?_; focus (simp [go_sem]; done)) | (refine PC.condF ?_ ?_; focus (simp [go_sem]; done)) | (refine PC.exit ?_; first | (refine hK _ _ ?_; clear hK) | (clear hK; refine hK _ _ ?_; clear hK) | (clear hK; clear hK; refine hK _ _ ?_; clear hK)))
  refine PL.inl rfl rfl (none_in 50 w N hN _ hw) (by simp [go_sem]) (by simp [target, go_sem]) ?_
  rintro q H1 ⟨v, g, rfl, hm1, ho1⟩
  repeat (first | (refine PC.seq fun K hK => ?_) | (refine PC.block ?_) | (refine PC.region ?_) | (refine PL.k rfl fun KK hKK => ?_; simp (disch := omega) [go_sem, stepK]; refine hKK _ ?_; clear hKK KK) | (refine PL.k rfl fun KK hKK => ?_; simp [go_sem, stepK]; refine hKK _ ?_; clear hKK KK) | (refine PL.g rfl rfl fun KK hKK => ?_; simp (disch := omega) [go_sem, L.stepG]; refine hKK _ ?_; clear hKK KK) | (refine PL.g rfl rfl fun KK hKK => ?_; simp [go_sem, L.stepG]; refine hKK _ ?_; clear hKK KK) | (refine PL.done hK ?_; clear hK) | (refine PC.skip (hK _ _ ?_); clear hK) | (refine PC.condT ?_ ?_; focus (simp [go_sem]; done)) | (refine PC.condF ?_ ?_; focus (simp [go_sem]; done)) | (refine PC.exit ?_; first | (refine hK _ _ ?_; clear hK) | (clear hK; refine hK _ _ ?_; clear hK) | (clear hK; clear hK; refine hK _ _ ?_; clear hK)))
  refine PC.loop (fun m F H' => ∃ (p : Nat), p ≤ N ∧ m = N - p ∧ F 0 = matV N fa ∧ F 1 = matV N fb ∧ F 2 = S w ∧ F 7 = .ps 50 v ∧ F 8 = I p ∧ ∃ f, MatAt H' 50 v g N f ∧ (∀ i j, i < p → j < N → f i j = behK fa fb N i j) ∧ ∀ i j, p ≤ i → f i j = false) (m := N) ⟨0, by omega, by omega, by simp [go_sem], by simp [go_sem], by simp [go_sem], by simp [go_sem], by simp [go_sem], _, hm1, by omega, by simp⟩ fun m F H' hI => ?_
  obtain ⟨p, hp, hm, f0, f1, f2, f7, f8, f, hM, hf, hz⟩ := hI
  by_cases hlt : p ≤ w.size
  · have hpl : p < N := by omega
    repeat (first | (refine PC.seq fun K hK => ?_) | (refine PC.block ?_) | (refine PC.region ?_) | (refine PL.k rfl fun KK hKK => ?_; simp (disch := omega) [go_sem, stepK, f2, f8, hlt]; refine hKK _ ?_; clear hKK KK) | (refine PL.k rfl fun KK hKK => ?_; simp [go_sem, stepK, f2, f8, hlt]; refine hKK _ ?_; clear hKK KK) | (refine PL.g rfl rfl fun KK hKK => ?_; simp (disch := omega) [go_sem, L.stepG, f2, f8, hlt]; refine hKK _ ?_; clear hKK KK) | (refine PL.g rfl rfl fun KK hKK => ?_; simp [go_sem, L.stepG, f2, f8, hlt]; refine hKK _ ?_; clear hKK KK) | (refine PL.done hK ?_; clear hK) | (refine PC.skip (hK _ _ ?_); clear hK) | (refine PC.condT ?_ ?_; focus (simp [go_sem, f2, f8, hlt]; done)) | (refine PC.condF ?_ ?_; focus (simp [go_sem, f2, f8, hlt]; done)) | (refine PC.exit ?_; first | (refine hK _ _ ?_; clear hK) | (clear hK; refine hK _ _ ?_; clear hK) | (clear hK; clear hK; refine hK _ _ ?_; clear hK)))
    refine PC.loop (fun m F H' => ∃ (k : Nat), p ≤ k ∧ k ≤ N ∧ m = N - k ∧ F 0 = matV N fa ∧ F 1 = matV N fb ∧ F 2 = S w ∧ F 7 = .ps 50 v ∧ F 8 = I p ∧ F 9 = I k ∧ ∃ f, MatAt H' 50 v g N f ∧ (∀ i j, i < p → j < N → f i j = behK fa fb N i j) ∧ (∀ i j, p + 1 ≤ i → f i j = false) ∧ ∀ j, j < N → f p j = behK fa fb k p j) (m := N - p) ⟨p, by omega, by omega, by omega, by simp [go_sem, f0], by simp [go_sem, f1], by simp [go_sem, f2], by simp [go_sem, f7], by simp [go_sem, f8], by simp [go_sem], _, hM, hf, fun i j h => hz i j (by omega), fun j hj => by rw [hz p j (by omega), behK_le _ _ (by omega)]⟩ fun m2 F H' hI => ?_
    clear f0 f1 f2 f7 f8 hM hf hz f
    obtain ⟨k, hpk, hk, hm2, f0, f1, f2, f7, f8, f9, f, hM, hf, hz, hfp⟩ := hI
    by_cases hlk : k ≤ w.size
    · have hkl : k < N := by omega
      repeat (first | (refine PC.seq fun K hK => ?_) | (refine PC.block ?_) | (refine PC.region ?_) | (refine PL.k rfl fun KK hKK => ?_; simp (disch := omega) [go_sem, stepK, f2, f9, hlk]; refine hKK _ ?_; clear hKK KK) | (refine PL.k rfl fun KK hKK => ?_; simp [go_sem, stepK, f2, f9, hlk]; refine hKK _ ?_; clear hKK KK) | (refine PL.g rfl rfl fun KK hKK => ?_; simp (disch := omega) [go_sem, L.stepG, f2, f9, hlk]; refine hKK _ ?_; clear hKK KK) | (refine PL.g rfl rfl fun KK hKK => ?_; simp [go_sem, L.stepG, f2, f9, hlk]; refine hKK _ ?_; clear hKK KK) | (refine PL.done hK ?_; clear hK) | (refine PC.skip (hK _ _ ?_); clear hK) | (refine PC.condT ?_ ?_; focus (simp [go_sem, f2, f9, hlk]; done)) | (refine PC.condF ?_ ?_; focus (simp [go_sem, f2, f9, hlk]; done)) | (refine PC.exit ?_; first | (refine hK _ _ ?_; clear hK) | (clear hK; refine hK _ _ ?_; clear hK) | (clear hK; clear hK; refine hK _ _ ?_; clear hK)))
      refine PC.loop (fun m F H' => ∃ (q : Nat), k ≤ q ∧ q ≤ N ∧ m = N - q ∧ F 0 = matV N fa ∧ F 1 = matV N fb ∧ F 2 = S w ∧ F 7 = .ps 50 v ∧ F 8 = I p ∧ F 9 = I k ∧ F 10 = I q ∧ ∃ f, MatAt H' 50 v g N f ∧ (∀ i j, i < p → j < N → f i j = behK fa fb N i j) ∧ (∀ i j, p + 1 ≤ i → f i j = false) ∧ ∀ j, j < N → f p j = behK fa fb (if j < q then k + 1 else k) p j) (m := N - k) ⟨k, by omega, by omega, by omega, by simp [go_sem, f0], by simp [go_sem, f1], by simp [go_sem, f2], by simp [go_sem, f7], by simp [go_sem, f8], by simp [go_sem, f9], by simp [go_sem], _, hM, hf, hz, ?_⟩ fun m3 F H' hI => ?_
      · intro j hj
        rw [hfp j hj]
        split
        · rw [behK_succ]; simp; omega
        · rfl
      clear f0 f1 f2 f7 f8 f9 hM hf hz hfp f
      obtain ⟨q, hkq, hq, hm3, f0, f1, f2, f7, f8, f9, f10, f, hM, hf, hz, hfp⟩ := hI
      cases hfa : fa p k
      · repeat (first | (refine PC.seq fun K hK => ?_) | (refine PC.block ?_) | (refine PC.region ?_) | (refine PL.k rfl fun KK hKK => ?_; simp (disch := omega) [go_sem, stepK, f0, f1, f2, f8, f9, f10, hpl, hkl, matV, boolsV, hfa]; refine hKK _ ?_; clear hKK KK) | (refine PL.k rfl fun KK hKK => ?_; simp [go_sem, stepK, f0, f1, f2, f8, f9, f10, hpl, hkl, matV, boolsV, hfa]; refine hKK _ ?_; clear hKK KK) | (refine PL.g rfl rfl fun KK hKK => ?_; simp (disch := omega) [go_sem, L.stepG, f0, f1, f2, f8, f9, f10, hpl, hkl, matV, boolsV, hfa]; refine hKK _ ?_; clear hKK KK) | (refine PL.g rfl rfl fun KK hKK => ?_; simp [go_sem, L.stepG, f0, f1, f2, f8, f9, f10, hpl, hkl, matV, boolsV, hfa]; refine hKK _ ?_; clear hKK KK) | (refine PL.done hK ?_; clear hK) | (refine PC.skip (hK _ _ ?_); clear hK) | (refine PC.condT ?_ ?_; focus (simp [go_sem, f0, f1, f2, f8, f9, f10, hpl, hkl, matV, boolsV, hfa]; done)) | (refine PC.condF ?_ ?_; focus (simp [go_sem, f0, f1, f2, f8, f9, f10, hpl, hkl, matV, boolsV, hfa]; done)) | (refine PC.exit ?_; first | (refine hK _ _ ?_; clear hK) | (clear hK; refine hK _ _ ?_; clear hK) | (clear hK; clear hK; refine hK _ _ ?_; clear hK)))
        refine PL.nil ⟨N - (k + 1), by omega, k + 1, by omega, by omega, by omega, by simp [go_sem, f0, matV, boolsV], by simp [go_sem, f1, matV, boolsV], by simp [go_sem, f2], by simp [go_sem, f7], by simp [go_sem, f8], by simp [go_sem], f, hM, hf, hz, fun j hj => ?_⟩
        rw [hfp j hj]
        split
        · rfl
        · rw [behK_succ]; simp [hfa]
      · by_cases hlq : q ≤ w.size
        · have hr0 := hM.1
          have hql : q < N := by omega
          have hr1 := hM.2 p hpl
          have hnum : (q : Int) ≤ w.size := by omega
          repeat (first | (refine PC.seq fun K hK => ?_) | (refine PC.block ?_) | (refine PC.region ?_) | (refine PL.k rfl fun KK hKK => ?_; simp (disch := omega) [go_sem, stepK, f0, f1, f2, f8, f9, f10, hpl, hkl, matV, boolsV, hfa, hnum, hlq]; refine hKK _ ?_; clear hKK KK) | (refine PL.k rfl fun KK hKK => ?_; simp [go_sem, stepK, f0, f1, f2, f8, f9, f10, hpl, hkl, matV, boolsV, hfa, hnum, hlq]; refine hKK _ ?_; clear hKK KK) | (refine PL.g rfl rfl fun KK hKK => ?_; simp (disch := omega) [go_sem, L.stepG, f0, f1, f2, f8, f9, f10, hpl, hkl, matV, boolsV, hfa, hnum, hlq]; refine hKK _ ?_; clear hKK KK) | (refine PL.g rfl rfl fun KK hKK => ?_; simp [go_sem, L.stepG, f0, f1, f2, f8, f9, f10, hpl, hkl, matV, boolsV, hfa, hnum, hlq]; refine hKK _ ?_; clear hKK KK) | (refine PL.done hK ?_; clear hK) | (refine PC.skip (hK _ _ ?_); clear hK) | (refine PC.condT ?_ ?_; focus (simp [go_sem, f0, f1, f2, f8, f9, f10, hpl, hkl, matV, boolsV, hfa, hnum, hlq]; done)) | (refine PC.condF ?_ ?_; focus (simp [go_sem, f0, f1, f2, f8, f9, f10, hpl, hkl, matV, boolsV, hfa, hnum, hlq]; done)) | (refine PC.exit ?_; first | (refine hK _ _ ?_; clear hK) | (clear hK; refine hK _ _ ?_; clear hK) | (clear hK; clear hK; refine hK _ _ ?_; clear hK)))
          refine PC.regionT 21 mixed (by kernel_rfl) ?_
          cases hfq : f p q
          all_goals
            repeat (first | (refine QF.k rfl fun KK hKK => ?_; simp (disch := omega) [go_sem, stepK, f0, f1, f7, f8, f9, f10, hr0, hr1, hpl, hkl, hql, matV, boolsV, hfq]; refine hKK _ ?_; clear hKK KK) | (refine QF.k rfl fun KK hKK => ?_; simp [go_sem, stepK, f0, f1, f7, f8, f9, f10, hr0, hr1, hpl, hkl, hql, matV, boolsV, hfq]; refine hKK _ ?_; clear hKK KK) | (refine QF.g rfl rfl fun KK hKK => ?_; simp (disch := omega) [go_sem, L.stepG, f0, f1, f7, f8, f9, f10, hr0, hr1, hpl, hkl, hql, matV, boolsV, hfq]; refine hKK _ ?_; clear hKK KK) | (refine QF.g rfl rfl fun KK hKK => ?_; simp [go_sem, L.stepG, f0, f1, f7, f8, f9, f10, hr0, hr1, hpl, hkl, hql, matV, boolsV, hfq]; refine hKK _ ?_; clear hKK KK))
            refine QF.nil ?_
            repeat (first | (refine PC.seq fun K hK => ?_) | (refine PC.block ?_) | (refine PC.region ?_) | (refine PL.k rfl fun KK hKK => ?_; simp (disch := omega) [go_sem, stepK, hr0, hr1, hpl, hql]; refine hKK _ ?_; clear hKK KK) | (refine PL.k rfl fun KK hKK => ?_; simp [go_sem, stepK, hr0, hr1, hpl, hql]; refine hKK _ ?_; clear hKK KK) | (refine PL.g rfl rfl fun KK hKK => ?_; simp (disch := omega) [go_sem, L.stepG, hr0, hr1, hpl, hql]; refine hKK _ ?_; clear hKK KK) | (refine PL.g rfl rfl fun KK hKK => ?_; simp [go_sem, L.stepG, hr0, hr1, hpl, hql]; refine hKK _ ?_; clear hKK KK) | (refine PL.done hK ?_; clear hK) | (refine PC.skip (hK _ _ ?_); clear hK) | (refine PC.condT ?_ ?_; focus (simp [go_sem, hr0, hr1, hpl, hql]; done)) | (refine PC.condF ?_ ?_; focus (simp [go_sem, hr0, hr1, hpl, hql]; done)) | (refine PC.exit ?_; first | (refine hK _ _ ?_; clear hK) | (clear hK; refine hK _ _ ?_; clear hK) | (clear hK; clear hK; refine hK _ _ ?_; clear hK)))
          all_goals
            refine PL.storeR (id := 50 + 1 + p) rfl rfl (by simp [dstOk]) (by simp [go_sem]) hr1 asz_4 (v := B (f p q || fb k q)) (by simp [go_sem, hfq]) (by simp [go_sem]) rfl rfl (by simp; omega) (setMany_range hql _ _) fun H2 b2 o2 => ?_
            repeat (first | (refine PC.seq fun K hK => ?_) | (refine PC.block ?_) | (refine PC.region ?_) | (refine PL.k rfl fun KK hKK => ?_; simp (disch := omega) [go_sem, stepK, f10]; refine hKK _ ?_; clear hKK KK) | (refine PL.k rfl fun KK hKK => ?_; simp [go_sem, stepK, f10]; refine hKK _ ?_; clear hKK KK) | (refine PL.g rfl rfl fun KK hKK => ?_; simp (disch := omega) [go_sem, L.stepG, f10]; refine hKK _ ?_; clear hKK KK) | (refine PL.g rfl rfl fun KK hKK => ?_; simp [go_sem, L.stepG, f10]; refine hKK _ ?_; clear hKK KK) | (refine PL.done hK ?_; clear hK) | (refine PC.skip (hK _ _ ?_); clear hK) | (refine PC.condT ?_ ?_; focus (simp [go_sem, f10]; done)) | (refine PC.condF ?_ ?_; focus (simp [go_sem, f10]; done)) | (refine PC.exit ?_; first | (refine hK _ _ ?_; clear hK) | (clear hK; refine hK _ _ ?_; clear hK) | (clear hK; clear hK; refine hK _ _ ?_; clear hK)))
            refine PL.nil ⟨N - (q + 1), by omega, q + 1, by omega, by omega, by omega, by simp [go_sem, f0, matV, boolsV], by simp [go_sem, f1, matV, boolsV], by simp [go_sem, f2], by simp [go_sem, f7], by simp [go_sem, f8], by simp [go_sem, f9], by simp [go_sem], _, hM.set hpl b2 o2, ?_, ?_, ?_⟩
            · intro i j hi hj; unfold updM; rw [if_neg (by omega)]; exact hf i j hi hj
            · intro i j hi; unfold updM; rw [if_neg (by omega)]; exact hz i j hi
            · intro j hj; unfold updM; split
              · rename_i h; obtain ⟨_, rfl⟩ := h
                rw [hfp j hj, if_neg (by omega), if_pos (by omega), behK_succ]
                simp [hfa, hpk, hkq]
              · rename_i h
                have : ¬ j = q := fun e => h ⟨rfl, e⟩
                rw [hfp j hj]
                congr 1
                by_cases e : j < q
                · rw [if_pos e, if_pos (by omega)]
                · rw [if_neg e, if_neg (by omega)]
        · have hnum : ¬ (q : Int) ≤ w.size := by omega
          repeat (first | (refine PC.seq fun K hK => ?_) | (refine PC.block ?_) | (refine PC.region ?_) | (refine PL.k rfl fun KK hKK => ?_; simp (disch := omega) [go_sem, stepK, f0, f1, f2, f8, f9, f10, hpl, hkl, matV, boolsV, hfa, hnum, hlq]; refine hKK _ ?_; clear hKK KK) | (refine PL.k rfl fun KK hKK => ?_; simp [go_sem, stepK, f0, f1, f2, f8, f9, f10, hpl, hkl, matV, boolsV, hfa, hnum, hlq]; refine hKK _ ?_; clear hKK KK) | (refine PL.g rfl rfl fun KK hKK => ?_; simp (disch := omega) [go_sem, L.stepG, f0, f1, f2, f8, f9, f10, hpl, hkl, matV, boolsV, hfa, hnum, hlq]; refine hKK _ ?_; clear hKK KK) | (refine PL.g rfl rfl fun KK hKK => ?_; simp [go_sem, L.stepG, f0, f1, f2, f8, f9, f10, hpl, hkl, matV, boolsV, hfa, hnum, hlq]; refine hKK _ ?_; clear hKK KK) | (refine PL.done hK ?_; clear hK) | (refine PC.skip (hK _ _ ?_); clear hK) | (refine PC.condT ?_ ?_; focus (simp [go_sem, f0, f1, f2, f8, f9, f10, hpl, hkl, matV, boolsV, hfa, hnum, hlq]; done)) | (refine PC.condF ?_ ?_; focus (simp [go_sem, f0, f1, f2, f8, f9, f10, hpl, hkl, matV, boolsV, hfa, hnum, hlq]; done)) | (refine PC.exit ?_; first | (refine hK _ _ ?_; clear hK) | (clear hK; refine hK _ _ ?_; clear hK) | (clear hK; clear hK; refine hK _ _ ?_; clear hK)))
          refine PL.nil ⟨N - (k + 1), by omega, k + 1, by omega, by omega, by omega, by simp [go_sem, f0, matV, boolsV], by simp [go_sem, f1, matV, boolsV], by simp [go_sem, f2], by simp [go_sem, f7], by simp [go_sem, f8], by simp [go_sem], f, hM, hf, hz, fun j hj => ?_⟩
          rw [hfp j hj, if_pos (by omega)]
    · repeat (first | (refine PC.seq fun K hK => ?_) | (refine PC.block ?_) | (refine PC.region ?_) | (refine PL.k rfl fun KK hKK => ?_; simp (disch := omega) [go_sem, stepK, f2, f8, f9, hlk]; refine hKK _ ?_; clear hKK KK) | (refine PL.k rfl fun KK hKK => ?_; simp [go_sem, stepK, f2, f8, f9, hlk]; refine hKK _ ?_; clear hKK KK) | (refine PL.g rfl rfl fun KK hKK => ?_; simp (disch := omega) [go_sem, L.stepG, f2, f8, f9, hlk]; refine hKK _ ?_; clear hKK KK) | (refine PL.g rfl rfl fun KK hKK => ?_; simp [go_sem, L.stepG, f2, f8, f9, hlk]; refine hKK _ ?_; clear hKK KK) | (refine PL.done hK ?_; clear hK) | (refine PC.skip (hK _ _ ?_); clear hK) | (refine PC.condT ?_ ?_; focus (simp [go_sem, f2, f8, f9, hlk]; done)) | (refine PC.condF ?_ ?_; focus (simp [go_sem, f2, f8, f9, hlk]; done)) | (refine PC.exit ?_; first | (refine hK _ _ ?_; clear hK) | (clear hK; refine hK _ _ ?_; clear hK) | (clear hK; clear hK; refine hK _ _ ?_; clear hK)))
      refine PL.nil ⟨N - (p + 1), by omega, p + 1, by omega, by omega, by simp [go_sem, f0], by simp [go_sem, f1], by simp [go_sem, f2], by simp [go_sem, f7], by simp [go_sem], f, hM, fun i j hi hj => ?_, fun i j hi => hz i j hi⟩
      have hkN : k = N := by omega
      by_cases e : i = p
      · subst e; rw [hfp j hj, hkN]
      · exact hf i j (by omega) hj
  · repeat (first | (refine PC.seq fun K hK => ?_) | (refine PC.block ?_) | (refine PC.region ?_) | (refine PL.k rfl fun KK hKK => ?_; simp (disch := omega) [go_sem, stepK, f2, f7, f8, hlt]; refine hKK _ ?_; clear hKK KK) | (refine PL.k rfl fun KK hKK => ?_; simp [go_sem, stepK, f2, f7, f8, hlt]; refine hKK _ ?_; clear hKK KK) | (refine PL.g rfl rfl fun KK hKK => ?_; simp (disch := omega) [go_sem, L.stepG, f2, f7, f8, hlt]; refine hKK _ ?_; clear hKK KK) | (refine PL.g rfl rfl fun KK hKK => ?_; simp [go_sem, L.stepG, f2, f7, f8, hlt]; refine hKK _ ?_; clear hKK KK) | (refine PL.done hK ?_; clear hK) | (refine PC.skip (hK _ _ ?_); clear hK) | (refine PC.condT ?_ ?_; focus (simp [go_sem, f2, f7, f8, hlt]; done)) | (refine PC.condF ?_ ?_; focus (simp [go_sem, f2, f7, f8, hlt]; done)) | (refine PC.exit ?_; first | (refine hK _ _ ?_; clear hK) | (clear hK; refine hK _ _ ?_; clear hK) | (clear hK; clear hK; refine hK _ _ ?_; clear hK)))
    have hff : matV N f = matV N (behK fa fb N) := matV_ext fun i j hi hj => hf i j (by omega) hj
    refine PC.ret ?_
    refine ⟨.inr rfl, .ps 50 v, _, ?_, hM.view, matV_noP _ _, hff⟩
    simp [resP, resP1, Try.results110, go_sem]
end Go.Proofs.Ytficeeaaaijgcaa

/-
  Chapter 9's reference: again, leads, over pure values.
-/
namespace Go.Proofs.Ytficeeaaaijgcaa
open Go Go.RowKit L
set_option linter.unusedVariables false
set_option linter.unusedSimpArgs false

theorem Of_ok (k : Int) : PCall Try.prog 63 [I k] (· = I (ofK k)) := fun Z w vs hz h => by
  obtain ⟨v, rfl, h1⟩ := rpl1 h
  rw [rpu h1]
  exact (ref7_Of_any k w).mono fun e' w' ⟨he, hw⟩ => ⟨_, _, he, rfl, .u _, .u _, by subst hw; exact Below.refl _ _⟩

@[go_sem] theorem sliceP_to {P : Program} {t : TypeId} {k : Nat} {xs : List PV} {kd : IntKind} {z : Int} (he : esz P t = some k) (h0 : 0 ≤ z) (h1 : z.toNat ≤ xs.length) : sliceP P t (.sl k xs) none (some (.u (.int kd z))) = some (.sl k (xs.take z.toNat)) := by
  simp [sliceP, boundP, h0, he, h1]
@[go_sem] theorem sliceP_from {P : Program} {t : TypeId} {k : Nat} {xs : List PV} {kd : IntKind} {z : Int} (he : esz P t = some k) (h0 : 0 ≤ z) (h1 : z.toNat ≤ xs.length) : sliceP P t (.sl k xs) (some (.u (.int kd z))) none = some (.sl k (xs.drop z.toNat)) := by
  simp [sliceP, boundP, h0, he, h1]

abbrev Mt := Nat → Nat → Bool
def sqF (N : Nat) (f : Mt) : Mt := fun p q => f p q || behK f f N p q
def againR (N : Nat) : Nat → Nat → Mt → Mt
  | 0, _, f => f
  | k + 1, n, f => if n ≤ N then againR N k (2 * n) (sqF N f) else f
def againF (N : Nat) (f : Mt) : Mt := againR N N 1 f

set_option maxRecDepth 20000 in
set_option maxHeartbeats 1000000 in
theorem again_ok (fa : Mt) (w : ByteArray) (N : Nat) (hN : N = w.size + 1) (hw : w.size ≤ 1000) : PCall Try.prog 112 [matV N fa, S w] (· = matV N (againF N fa)) := by
  refine PCall.intro' Try.func112 rfl Try.ntmps112 (by simp) fun W => ?_
  repeat (first | (refine PC.seq fun K hK => ?_) | (refine PC.block ?_) | (refine PC.region ?_) | (refine PL.k rfl fun KK hKK => ?_; simp (disch := omega) [go_sem, stepK]; refine hKK _ ?_; clear hKK KK) | (refine PL.k rfl fun KK hKK => ?_; simp [go_sem, stepK]; refine hKK _ ?_; clear hKK KK) | (refine PL.g rfl rfl fun KK hKK => ?_; simp (disch := omega) [go_sem, L.stepG]; refine hKK _ ?_; clear hKK KK) | (refine PL.g rfl rfl fun KK hKK => ?_; simp [go_sem, L.stepG]; refine hKK _ ?_; clear hKK KK) | (refine PL.done hK ?_; clear hK) | (refine PC.skip (hK _ _ ?_); clear hK) | (refine PC.condT ?_ ?_; focus (simp [go_sem]; done)) | (refine PC.condF ?_ ?_; focus (simp [go_sem]; done)) | (refine PC.exit ?_; first | (refine hK _ _ ?_; clear hK) | (clear hK; refine hK _ _ ?_; clear hK) | (clear hK; clear hK; refine hK _ _ ?_; clear hK)))
  refine PC.loop (fun m F H' => ∃ (n k : Nat) (f : Mt), 1 ≤ n ∧ n ≤ 2 * N ∧ m = 2 * N - n ∧ N < n + k ∧ F 1 = S w ∧ F 5 = matV N f ∧ F 6 = I n ∧ againR N k n f = againF N fa) (m := 2 * N - 1) ⟨1, N, fa, by omega, by omega, by omega, by omega, by simp [go_sem], by simp [go_sem], by simp [go_sem], rfl⟩ fun m F H' hI => ?_
  obtain ⟨n, k, f, hn1, hn2, hm, hk, f1, f5, f6, hA⟩ := hI
  have nM : ∀ f, NoP (matV N f) := matV_noP N
  by_cases hlt : n ≤ N
  · have hn' : (n : Int) ≤ w.size + 1 := by omega
    repeat (first | (refine PC.seq fun K hK => ?_) | (refine PC.block ?_) | (refine PC.region ?_) | (refine PL.k rfl fun KK hKK => ?_; simp (disch := omega) [go_sem, stepK, f1, f5, f6, hn']; refine hKK _ ?_; clear hKK KK) | (refine PL.k rfl fun KK hKK => ?_; simp [go_sem, stepK, f1, f5, f6, hn']; refine hKK _ ?_; clear hKK KK) | (refine PL.g rfl rfl fun KK hKK => ?_; simp (disch := omega) [go_sem, L.stepG, f1, f5, f6, hn']; refine hKK _ ?_; clear hKK KK) | (refine PL.g rfl rfl fun KK hKK => ?_; simp [go_sem, L.stepG, f1, f5, f6, hn']; refine hKK _ ?_; clear hKK KK) | (refine PL.done hK ?_; clear hK) | (refine PC.skip (hK _ _ ?_); clear hK) | (refine PC.condT ?_ ?_; focus (simp [go_sem, f1, f5, f6, hn']; done)) | (refine PC.condF ?_ ?_; focus (simp [go_sem, f1, f5, f6, hn']; done)) | (refine PC.exit ?_; first | (refine hK _ _ ?_; clear hK) | (clear hK; refine hK _ _ ?_; clear hK) | (clear hK; clear hK; refine hK _ _ ?_; clear hK)))
    refine PL.callB rfl rfl (by kernel_rfl) (behind_ok f f w N hN hw) (by simp [go_sem]) (by simp [go_sem, f1, nM]) (by simp [go_sem, f1, nM]) ?_
    repeat (first | (refine PC.seq fun K hK => ?_) | (refine PC.block ?_) | (refine PC.region ?_) | (refine PL.k rfl fun KK hKK => ?_; simp (disch := omega) [go_sem, stepK, f1]; refine hKK _ ?_; clear hKK KK) | (refine PL.k rfl fun KK hKK => ?_; simp [go_sem, stepK, f1]; refine hKK _ ?_; clear hKK KK) | (refine PL.g rfl rfl fun KK hKK => ?_; simp (disch := omega) [go_sem, L.stepG, f1]; refine hKK _ ?_; clear hKK KK) | (refine PL.g rfl rfl fun KK hKK => ?_; simp [go_sem, L.stepG, f1]; refine hKK _ ?_; clear hKK KK) | (refine PL.done hK ?_; clear hK) | (refine PC.skip (hK _ _ ?_); clear hK) | (refine PC.condT ?_ ?_; focus (simp [go_sem, f1]; done)) | (refine PC.condF ?_ ?_; focus (simp [go_sem, f1]; done)) | (refine PC.exit ?_; first | (refine hK _ _ ?_; clear hK) | (clear hK; refine hK _ _ ?_; clear hK) | (clear hK; clear hK; refine hK _ _ ?_; clear hK)))
    refine PL.callB rfl rfl (by kernel_rfl) (both_ok f (behK f f N) w N hN hw) (by simp [go_sem]) (by simp [go_sem, f1, nM]) (by simp [go_sem, f1, nM]) ?_
    repeat (first | (refine PC.seq fun K hK => ?_) | (refine PC.block ?_) | (refine PC.region ?_) | (refine PL.k rfl fun KK hKK => ?_; simp (disch := omega) [go_sem, stepK, f6]; refine hKK _ ?_; clear hKK KK) | (refine PL.k rfl fun KK hKK => ?_; simp [go_sem, stepK, f6]; refine hKK _ ?_; clear hKK KK) | (refine PL.g rfl rfl fun KK hKK => ?_; simp (disch := omega) [go_sem, L.stepG, f6]; refine hKK _ ?_; clear hKK KK) | (refine PL.g rfl rfl fun KK hKK => ?_; simp [go_sem, L.stepG, f6]; refine hKK _ ?_; clear hKK KK) | (refine PL.done hK ?_; clear hK) | (refine PC.skip (hK _ _ ?_); clear hK) | (refine PC.condT ?_ ?_; focus (simp [go_sem, f6]; done)) | (refine PC.condF ?_ ?_; focus (simp [go_sem, f6]; done)) | (refine PC.exit ?_; first | (refine hK _ _ ?_; clear hK) | (clear hK; refine hK _ _ ?_; clear hK) | (clear hK; clear hK; refine hK _ _ ?_; clear hK)))
    obtain ⟨k, rfl⟩ : ∃ k', k = k' + 1 := ⟨k - 1, by omega⟩
    rw [againR, if_pos hlt] at hA
    refine PL.nil ⟨2 * N - 2 * n, by omega, 2 * n, k, _, by omega, by omega, by omega, by omega, by simp [go_sem, f1], by simp [go_sem]; rfl, by simp [go_sem], hA⟩
  · have hn' : ¬ (n : Int) ≤ w.size + 1 := by omega
    repeat (first | (refine PC.seq fun K hK => ?_) | (refine PC.block ?_) | (refine PC.region ?_) | (refine PL.k rfl fun KK hKK => ?_; simp (disch := omega) [go_sem, stepK, f1, f5, f6, hn']; refine hKK _ ?_; clear hKK KK) | (refine PL.k rfl fun KK hKK => ?_; simp [go_sem, stepK, f1, f5, f6, hn']; refine hKK _ ?_; clear hKK KK) | (refine PL.g rfl rfl fun KK hKK => ?_; simp (disch := omega) [go_sem, L.stepG, f1, f5, f6, hn']; refine hKK _ ?_; clear hKK KK) | (refine PL.g rfl rfl fun KK hKK => ?_; simp [go_sem, L.stepG, f1, f5, f6, hn']; refine hKK _ ?_; clear hKK KK) | (refine PL.done hK ?_; clear hK) | (refine PC.skip (hK _ _ ?_); clear hK) | (refine PC.condT ?_ ?_; focus (simp [go_sem, f1, f5, f6, hn']; done)) | (refine PC.condF ?_ ?_; focus (simp [go_sem, f1, f5, f6, hn']; done)) | (refine PC.exit ?_; first | (refine hK _ _ ?_; clear hK) | (clear hK; refine hK _ _ ?_; clear hK) | (clear hK; clear hK; refine hK _ _ ?_; clear hK)))
    have : f = againF N fa := by
      rw [← hA]
      cases k with
      | zero => rfl
      | succ k => rw [againR, if_neg hlt]
    subst this
    (refine PC.ret ?_; refine fin (.inr rfl) (by simp [resP, resP1, Try.results112, go_sem, nM, matV_noP]) (by simp [go_sem, nM, matV_noP]))

/-- a step, on the tables so far -/
def tabX (w : ByteArray) (x : Rx) (ms : List Mt) (n : Nat) : Mt :=
  let N := w.size + 1
  let at_ := fun i => ms.getD i fun _ _ => false
  if x.kind = 1 then setF x w
  else if x.kind = 3 then behK (at_ n) (at_ (n + 1)) N
  else if x.kind = 4 then fun p q => at_ n p q || at_ (n + 1) p q
  else if x.kind = 7 then fun p q => decide (p = q) || at_ n p q
  else if x.kind = 6 then againF N (at_ n)
  else if x.kind = 5 then fun p q => decide (p = q) || againF N (at_ n) p q
  else fun p q => decide (p = q)
def stepT (w : ByteArray) (ms : List Mt) (x : Rx) : List Mt := ms.take (ms.length - (ofK x.kind).toNat) ++ [tabX w x ms (ms.length - (ofK x.kind).toNat)]
def runT (w : ByteArray) (l : List Rx) : List Mt := l.foldl (stepT w) []
theorem runT_succ (w : ByteArray) (l : List Rx) (k : Nat) (hk : k < l.length) : runT w (l.take (k + 1)) = stepT w (runT w (l.take k)) l[k] := by
  unfold runT; rw [List.take_succ_eq_append_getElem hk, List.foldl_append]; rfl
theorem stepT_len (w : ByteArray) (ms : List Mt) (x : Rx) (h0 : 0 ≤ ofK x.kind) (h : ofK x.kind ≤ ms.length) : ((stepT w ms x).length : Int) = ms.length - ofK x.kind + 1 := by
  simp [stepT]; omega

def msV (N : Nat) (ms : List Mt) : PV := .sl 1 (ms.map (matV N))
theorem msV_cells (N : Nat) (ms : List Mt) : (ms.map (matV N)).flatMap PV.cells = ms.map (matV N) := by
  induction ms with
  | nil => rfl
  | cons m ms ih => rw [List.map_cons, List.flatMap_cons, ih]; rfl

/-- what the switch leaves -/
def MidT (w : ByteArray) (l : List Rx) (N i n : Nat) (ms : List Mt) (f : Mt) (F : PFrame) (H : PHeap) : Prop :=
  F 0 = slX l ∧ F 1 = S w ∧ F 5 = msV N ms ∧ F 6 = I i ∧ F 7 = I n ∧ F 8 = matV N f

set_option maxRecDepth 20000 in
set_option maxHeartbeats 4000000 in
theorem leads_ok (l : List Rx) (w : ByteArray) (N : Nat) (hN : N = w.size + 1) (hw : w.size ≤ 1000) (hl : checkL l = 0) (m0 : Mt) (hr : runT w l = [m0]) : PCall Try.prog 96 [slX l, S w] (· = matV N m0) := by
  have hl512 := checkL_len hl
  have nM : ∀ f, NoP (matV N f) := matV_noP N
  refine PCall.intro' Try.func96 rfl Try.ntmps96 (by simp) fun W => ?_
  repeat (first | (refine PC.seq fun K hK => ?_) | (refine PC.block ?_) | (refine PC.region ?_) | (refine PL.k rfl fun KK hKK => ?_; simp (disch := omega) [go_sem, stepK]; refine hKK _ ?_; clear hKK KK) | (refine PL.k rfl fun KK hKK => ?_; simp [go_sem, stepK]; refine hKK _ ?_; clear hKK KK) | (refine PL.g rfl rfl fun KK hKK => ?_; simp (disch := omega) [go_sem, L.stepG]; refine hKK _ ?_; clear hKK KK) | (refine PL.g rfl rfl fun KK hKK => ?_; simp [go_sem, L.stepG]; refine hKK _ ?_; clear hKK KK) | (refine PL.done hK ?_; clear hK) | (refine PC.skip (hK _ _ ?_); clear hK) | (refine PC.condT ?_ ?_; focus (simp [go_sem]; done)) | (refine PC.condF ?_ ?_; focus (simp [go_sem]; done)) | (refine PC.exit ?_; first | (refine hK _ _ ?_; clear hK) | (clear hK; refine hK _ _ ?_; clear hK) | (clear hK; clear hK; refine hK _ _ ?_; clear hK)))
  refine PL.buildSliceR (d := 9) rfl rfl rfl (by simp) selem_132 rfl (by omega) (ips := []) (by simp [go_sem]) (by simp [litOk]) (ps := []) rfl ?_
  repeat (first | (refine PC.seq fun K hK => ?_) | (refine PC.block ?_) | (refine PC.region ?_) | (refine PL.k rfl fun KK hKK => ?_; simp (disch := omega) [go_sem, stepK]; refine hKK _ ?_; clear hKK KK) | (refine PL.k rfl fun KK hKK => ?_; simp [go_sem, stepK]; refine hKK _ ?_; clear hKK KK) | (refine PL.g rfl rfl fun KK hKK => ?_; simp (disch := omega) [go_sem, L.stepG]; refine hKK _ ?_; clear hKK KK) | (refine PL.g rfl rfl fun KK hKK => ?_; simp [go_sem, L.stepG]; refine hKK _ ?_; clear hKK KK) | (refine PL.done hK ?_; clear hK) | (refine PC.skip (hK _ _ ?_); clear hK) | (refine PC.condT ?_ ?_; focus (simp [go_sem]; done)) | (refine PC.condF ?_ ?_; focus (simp [go_sem]; done)) | (refine PC.exit ?_; first | (refine hK _ _ ?_; clear hK) | (clear hK; refine hK _ _ ?_; clear hK) | (clear hK; clear hK; refine hK _ _ ?_; clear hK)))
  refine PC.loop (fun m F H' => ∃ i : Nat, i ≤ l.length ∧ m = l.length - i ∧ F 0 = slX l ∧ F 1 = S w ∧ F 5 = msV N (runT w (l.take i)) ∧ F 6 = I i ∧ checkLoop (l.drop i) (runT w (l.take i)).length = 0 ∧ (runT w (l.take i)).length ≤ i) (m := l.length) ⟨0, by omega, by omega, by simp [go_sem], by simp [go_sem], by simp [go_sem, msV, runT], by simp [go_sem], ?_, by simp [runT]⟩ fun m F H' hI => ?_
  · unfold checkL at hl
    rw [if_neg (by omega)] at hl
    simpa [runT] using hl
  obtain ⟨i, hi, hm, f0, f1, f5, f6, hchk, hlen⟩ := hI
  by_cases hlt : i < l.length
  · have hsucc := runT_succ w l i hlt
    rw [drop_cons l i hlt] at hchk
    obtain ⟨hkind, hof, hnext⟩ := chk_step hchk
    generalize hS : runT w (l.take i) = ms at *
    obtain ⟨n, hn⟩ : ∃ n, n = ms.length - (ofK l[i].kind).toNat := ⟨_, rfl⟩
    have h0 : 0 ≤ ofK l[i].kind := by unfold ofK; rcases hkind with e | e | e | e | e | e | e <;> rw [e] <;> decide
    have hnI : (ms.length : Int) - ofK l[i].kind = n := by omega
    have f0' : F 0 = .sl 5 (l.map encX) := f0
    have f5' : F 5 = .sl 1 (ms.map (matV N)) := f5
    have hkm : i < (l.map encX).length := by simpa using hlt
    repeat (first | (refine PC.seq fun K hK => ?_) | (refine PC.block ?_) | (refine PC.region ?_) | (refine PL.k rfl fun KK hKK => ?_; simp (disch := omega) [go_sem, stepK, f0', f5', f6, hlt, hkm, encX]; refine hKK _ ?_; clear hKK KK) | (refine PL.k rfl fun KK hKK => ?_; simp [go_sem, stepK, f0', f5', f6, hlt, hkm, encX]; refine hKK _ ?_; clear hKK KK) | (refine PL.g rfl rfl fun KK hKK => ?_; simp (disch := omega) [go_sem, L.stepG, f0', f5', f6, hlt, hkm, encX]; refine hKK _ ?_; clear hKK KK) | (refine PL.g rfl rfl fun KK hKK => ?_; simp [go_sem, L.stepG, f0', f5', f6, hlt, hkm, encX]; refine hKK _ ?_; clear hKK KK) | (refine PL.done hK ?_; clear hK) | (refine PC.skip (hK _ _ ?_); clear hK) | (refine PC.condT ?_ ?_; focus (simp [go_sem, f0', f5', f6, hlt, hkm, encX]; done)) | (refine PC.condF ?_ ?_; focus (simp [go_sem, f0', f5', f6, hlt, hkm, encX]; done)) | (refine PC.exit ?_; first | (refine hK _ _ ?_; clear hK) | (clear hK; refine hK _ _ ?_; clear hK) | (clear hK; clear hK; refine hK _ _ ?_; clear hK)))
    refine PL.callB rfl rfl (by kernel_rfl) (Of_ok l[i].kind) (by simp [go_sem]) (by simp [go_sem]) (by simp [go_sem]) ?_
    repeat (first | (refine PC.seq fun K hK => ?_) | (refine PC.block ?_) | (refine PC.region ?_) | (refine PL.k rfl fun KK hKK => ?_; simp (disch := omega) [go_sem, stepK, hnI, f1]; refine hKK _ ?_; clear hKK KK) | (refine PL.k rfl fun KK hKK => ?_; simp [go_sem, stepK, hnI, f1]; refine hKK _ ?_; clear hKK KK) | (refine PL.g rfl rfl fun KK hKK => ?_; simp (disch := omega) [go_sem, L.stepG, hnI, f1]; refine hKK _ ?_; clear hKK KK) | (refine PL.g rfl rfl fun KK hKK => ?_; simp [go_sem, L.stepG, hnI, f1]; refine hKK _ ?_; clear hKK KK) | (refine PL.done hK ?_; clear hK) | (refine PC.skip (hK _ _ ?_); clear hK) | (refine PC.condT ?_ ?_; focus (simp [go_sem, hnI, f1]; done)) | (refine PC.condF ?_ ?_; focus (simp [go_sem, hnI, f1]; done)) | (refine PC.exit ?_; first | (refine hK _ _ ?_; clear hK) | (clear hK; refine hK _ _ ?_; clear hK) | (clear hK; clear hK; refine hK _ _ ?_; clear hK)))
    refine PL.callB rfl rfl (by kernel_rfl) (same_ok w N hN hw) (by simp [go_sem]) (by simp [go_sem]) (by simp [go_sem]) ?_
    repeat (refine PL.k rfl fun KK hKK => ?_; simp [go_sem, stepK]; refine hKK _ ?_; clear hKK KK)
    refine PL.done hK ?_; clear hK
    refine PC.seqM (MidT w l N i n ms (tabX w l[i] ms n)) ?_ ?_
    · have k567 : ofK l[i].kind = 1 → n < ms.length := by omega
      have k34 : ofK l[i].kind = 2 → n < ms.length ∧ n + 1 < ms.length := by omega
      have p1 : (0 : Int) ≤ (n : Int) + 1 := by omega
      have p2 : ((n : Int) + 1).toNat = n + 1 := by omega
      rcases hkind with e | e | e | e | e | e | e
      · repeat (first | (refine PC.seq fun K hK => ?_) | (refine PC.block ?_) | (refine PC.region ?_) | (refine PL.k rfl fun KK hKK => ?_; simp (disch := omega) [go_sem, stepK, f0', f6, hlt, hkm, encX, e, f1]; refine hKK _ ?_; clear hKK KK) | (refine PL.k rfl fun KK hKK => ?_; simp [go_sem, stepK, f0', f6, hlt, hkm, encX, e, f1]; refine hKK _ ?_; clear hKK KK) | (refine PL.g rfl rfl fun KK hKK => ?_; simp (disch := omega) [go_sem, L.stepG, f0', f6, hlt, hkm, encX, e, f1]; refine hKK _ ?_; clear hKK KK) | (refine PL.g rfl rfl fun KK hKK => ?_; simp [go_sem, L.stepG, f0', f6, hlt, hkm, encX, e, f1]; refine hKK _ ?_; clear hKK KK) | (refine PL.done hK ?_; clear hK) | (refine PC.skip (hK _ _ ?_); clear hK) | (refine PC.condT ?_ ?_; focus (simp [go_sem, f0', f6, hlt, hkm, encX, e, f1]; done)) | (refine PC.condF ?_ ?_; focus (simp [go_sem, f0', f6, hlt, hkm, encX, e, f1]; done)) | (refine PC.exit ?_; first | (refine hK _ _ ?_; clear hK) | (clear hK; refine hK _ _ ?_; clear hK) | (clear hK; clear hK; refine hK _ _ ?_; clear hK)))
        refine PL.callB rfl rfl (by kernel_rfl) (set_ok l[i] w N hN hw) (by simp [go_sem]) (by simp [go_sem, W64]) (by simp [go_sem, encS, W64]) ?_
        repeat (refine PL.k rfl fun KK hKK => ?_; simp [go_sem, stepK]; refine hKK _ ?_; clear hKK KK)
        refine PL.nil ⟨by simp [go_sem, f0], by simp [go_sem, f1], by simp [go_sem, f5], by simp [go_sem, f6], by simp [go_sem], by simp [go_sem, tabX, e]⟩
      · repeat (first | (refine PC.seq fun K hK => ?_) | (refine PC.block ?_) | (refine PC.region ?_) | (refine PL.k rfl fun KK hKK => ?_; simp (disch := omega) [go_sem, stepK, f0', f6, hlt, hkm, encX, e, f1]; refine hKK _ ?_; clear hKK KK) | (refine PL.k rfl fun KK hKK => ?_; simp [go_sem, stepK, f0', f6, hlt, hkm, encX, e, f1]; refine hKK _ ?_; clear hKK KK) | (refine PL.g rfl rfl fun KK hKK => ?_; simp (disch := omega) [go_sem, L.stepG, f0', f6, hlt, hkm, encX, e, f1]; refine hKK _ ?_; clear hKK KK) | (refine PL.g rfl rfl fun KK hKK => ?_; simp [go_sem, L.stepG, f0', f6, hlt, hkm, encX, e, f1]; refine hKK _ ?_; clear hKK KK) | (refine PL.done hK ?_; clear hK) | (refine PC.skip (hK _ _ ?_); clear hK) | (refine PC.condT ?_ ?_; focus (simp [go_sem, f0', f6, hlt, hkm, encX, e, f1]; done)) | (refine PC.condF ?_ ?_; focus (simp [go_sem, f0', f6, hlt, hkm, encX, e, f1]; done)) | (refine PC.exit ?_; first | (refine hK _ _ ?_; clear hK) | (clear hK; refine hK _ _ ?_; clear hK) | (clear hK; clear hK; refine hK _ _ ?_; clear hK)))
        refine PC.skip ?_
        refine ⟨by simp [go_sem, f0], by simp [go_sem, f1], by simp [go_sem, f5], by simp [go_sem, f6], by simp [go_sem], by simp [go_sem, tabX, e]⟩
      · obtain ⟨n1, n2⟩ := k34 (by rw [e]; rfl)
        repeat (first | (refine PC.seq fun K hK => ?_) | (refine PC.block ?_) | (refine PC.region ?_) | (refine PL.k rfl fun KK hKK => ?_; simp (disch := omega) [go_sem, stepK, f0', f6, hlt, hkm, encX, e, f1]; refine hKK _ ?_; clear hKK KK) | (refine PL.k rfl fun KK hKK => ?_; simp [go_sem, stepK, f0', f6, hlt, hkm, encX, e, f1]; refine hKK _ ?_; clear hKK KK) | (refine PL.g rfl rfl fun KK hKK => ?_; simp (disch := omega) [go_sem, L.stepG, f0', f6, hlt, hkm, encX, e, f1]; refine hKK _ ?_; clear hKK KK) | (refine PL.g rfl rfl fun KK hKK => ?_; simp [go_sem, L.stepG, f0', f6, hlt, hkm, encX, e, f1]; refine hKK _ ?_; clear hKK KK) | (refine PL.done hK ?_; clear hK) | (refine PC.skip (hK _ _ ?_); clear hK) | (refine PC.condT ?_ ?_; focus (simp [go_sem, f0', f6, hlt, hkm, encX, e, f1]; done)) | (refine PC.condF ?_ ?_; focus (simp [go_sem, f0', f6, hlt, hkm, encX, e, f1]; done)) | (refine PC.exit ?_; first | (refine hK _ _ ?_; clear hK) | (clear hK; refine hK _ _ ?_; clear hK) | (clear hK; clear hK; refine hK _ _ ?_; clear hK)))
        refine PC.regionQ mixed (by kernel_rfl) ?_
        repeat (first | (refine QF.k rfl fun KK hKK => ?_; simp (disch := omega) [go_sem, stepK, f5', f1, n1, n2, p1, p2]; refine hKK _ ?_; clear hKK KK) | (refine QF.k rfl fun KK hKK => ?_; simp [go_sem, stepK, f5', f1, n1, n2, p1, p2]; refine hKK _ ?_; clear hKK KK) | (refine QF.g rfl rfl fun KK hKK => ?_; simp (disch := omega) [go_sem, L.stepG, f5', f1, n1, n2, p1, p2]; refine hKK _ ?_; clear hKK KK) | (refine QF.g rfl rfl fun KK hKK => ?_; simp [go_sem, L.stepG, f5', f1, n1, n2, p1, p2]; refine hKK _ ?_; clear hKK KK))
        refine QF.callB rfl rfl (by kernel_rfl) (behind_ok ms[n] ms[n + 1] w N hN hw) (by simp [go_sem]) (by simp [go_sem, nM]) (by simp [go_sem, nM]) ?_
        repeat (first | (refine QF.k rfl fun KK hKK => ?_; simp (disch := omega) [go_sem, stepK]; refine hKK _ ?_; clear hKK KK) | (refine QF.k rfl fun KK hKK => ?_; simp [go_sem, stepK]; refine hKK _ ?_; clear hKK KK) | (refine QF.g rfl rfl fun KK hKK => ?_; simp (disch := omega) [go_sem, L.stepG]; refine hKK _ ?_; clear hKK KK) | (refine QF.g rfl rfl fun KK hKK => ?_; simp [go_sem, L.stepG]; refine hKK _ ?_; clear hKK KK))
        refine QF.nil ⟨by simp [go_sem, f0], by simp [go_sem, f1], by simp [go_sem, f5], by simp [go_sem, f6], by simp [go_sem], by simp [go_sem, tabX, e, n1, n2, hN]⟩
      · obtain ⟨n1, n2⟩ := k34 (by rw [e]; rfl)
        repeat (first | (refine PC.seq fun K hK => ?_) | (refine PC.block ?_) | (refine PC.region ?_) | (refine PL.k rfl fun KK hKK => ?_; simp (disch := omega) [go_sem, stepK, f0', f6, hlt, hkm, encX, e, f1]; refine hKK _ ?_; clear hKK KK) | (refine PL.k rfl fun KK hKK => ?_; simp [go_sem, stepK, f0', f6, hlt, hkm, encX, e, f1]; refine hKK _ ?_; clear hKK KK) | (refine PL.g rfl rfl fun KK hKK => ?_; simp (disch := omega) [go_sem, L.stepG, f0', f6, hlt, hkm, encX, e, f1]; refine hKK _ ?_; clear hKK KK) | (refine PL.g rfl rfl fun KK hKK => ?_; simp [go_sem, L.stepG, f0', f6, hlt, hkm, encX, e, f1]; refine hKK _ ?_; clear hKK KK) | (refine PL.done hK ?_; clear hK) | (refine PC.skip (hK _ _ ?_); clear hK) | (refine PC.condT ?_ ?_; focus (simp [go_sem, f0', f6, hlt, hkm, encX, e, f1]; done)) | (refine PC.condF ?_ ?_; focus (simp [go_sem, f0', f6, hlt, hkm, encX, e, f1]; done)) | (refine PC.exit ?_; first | (refine hK _ _ ?_; clear hK) | (clear hK; refine hK _ _ ?_; clear hK) | (clear hK; clear hK; refine hK _ _ ?_; clear hK)))
        refine PC.regionQ mixed (by kernel_rfl) ?_
        repeat (first | (refine QF.k rfl fun KK hKK => ?_; simp (disch := omega) [go_sem, stepK, f5', f1, n1, n2, p1, p2]; refine hKK _ ?_; clear hKK KK) | (refine QF.k rfl fun KK hKK => ?_; simp [go_sem, stepK, f5', f1, n1, n2, p1, p2]; refine hKK _ ?_; clear hKK KK) | (refine QF.g rfl rfl fun KK hKK => ?_; simp (disch := omega) [go_sem, L.stepG, f5', f1, n1, n2, p1, p2]; refine hKK _ ?_; clear hKK KK) | (refine QF.g rfl rfl fun KK hKK => ?_; simp [go_sem, L.stepG, f5', f1, n1, n2, p1, p2]; refine hKK _ ?_; clear hKK KK))
        refine QF.callB rfl rfl (by kernel_rfl) (both_ok ms[n] ms[n + 1] w N hN hw) (by simp [go_sem]) (by simp [go_sem, nM]) (by simp [go_sem, nM]) ?_
        repeat (first | (refine QF.k rfl fun KK hKK => ?_; simp (disch := omega) [go_sem, stepK]; refine hKK _ ?_; clear hKK KK) | (refine QF.k rfl fun KK hKK => ?_; simp [go_sem, stepK]; refine hKK _ ?_; clear hKK KK) | (refine QF.g rfl rfl fun KK hKK => ?_; simp (disch := omega) [go_sem, L.stepG]; refine hKK _ ?_; clear hKK KK) | (refine QF.g rfl rfl fun KK hKK => ?_; simp [go_sem, L.stepG]; refine hKK _ ?_; clear hKK KK))
        refine QF.nil ⟨by simp [go_sem, f0], by simp [go_sem, f1], by simp [go_sem, f5], by simp [go_sem, f6], by simp [go_sem], by simp [go_sem, tabX, e, n1, n2, hN]⟩
      · have n1 := k567 (by rw [e]; rfl)
        repeat (first | (refine PC.seq fun K hK => ?_) | (refine PC.block ?_) | (refine PC.region ?_) | (refine PL.k rfl fun KK hKK => ?_; simp (disch := omega) [go_sem, stepK, f0', f5', f6, hlt, hkm, encX, e, f1, n1]; refine hKK _ ?_; clear hKK KK) | (refine PL.k rfl fun KK hKK => ?_; simp [go_sem, stepK, f0', f5', f6, hlt, hkm, encX, e, f1, n1]; refine hKK _ ?_; clear hKK KK) | (refine PL.g rfl rfl fun KK hKK => ?_; simp (disch := omega) [go_sem, L.stepG, f0', f5', f6, hlt, hkm, encX, e, f1, n1]; refine hKK _ ?_; clear hKK KK) | (refine PL.g rfl rfl fun KK hKK => ?_; simp [go_sem, L.stepG, f0', f5', f6, hlt, hkm, encX, e, f1, n1]; refine hKK _ ?_; clear hKK KK) | (refine PL.done hK ?_; clear hK) | (refine PC.skip (hK _ _ ?_); clear hK) | (refine PC.condT ?_ ?_; focus (simp [go_sem, f0', f5', f6, hlt, hkm, encX, e, f1, n1]; done)) | (refine PC.condF ?_ ?_; focus (simp [go_sem, f0', f5', f6, hlt, hkm, encX, e, f1, n1]; done)) | (refine PC.exit ?_; first | (refine hK _ _ ?_; clear hK) | (clear hK; refine hK _ _ ?_; clear hK) | (clear hK; clear hK; refine hK _ _ ?_; clear hK)))
        refine PL.callB rfl rfl (by kernel_rfl) (again_ok ms[n] w N hN hw) (by simp [go_sem]) (by simp [go_sem, nM]) (by simp [go_sem, nM]) ?_
        repeat (first | (refine PC.seq fun K hK => ?_) | (refine PC.block ?_) | (refine PC.region ?_) | (refine PL.k rfl fun KK hKK => ?_; simp (disch := omega) [go_sem, stepK, f1]; refine hKK _ ?_; clear hKK KK) | (refine PL.k rfl fun KK hKK => ?_; simp [go_sem, stepK, f1]; refine hKK _ ?_; clear hKK KK) | (refine PL.g rfl rfl fun KK hKK => ?_; simp (disch := omega) [go_sem, L.stepG, f1]; refine hKK _ ?_; clear hKK KK) | (refine PL.g rfl rfl fun KK hKK => ?_; simp [go_sem, L.stepG, f1]; refine hKK _ ?_; clear hKK KK) | (refine PL.done hK ?_; clear hK) | (refine PC.skip (hK _ _ ?_); clear hK) | (refine PC.condT ?_ ?_; focus (simp [go_sem, f1]; done)) | (refine PC.condF ?_ ?_; focus (simp [go_sem, f1]; done)) | (refine PC.exit ?_; first | (refine hK _ _ ?_; clear hK) | (clear hK; refine hK _ _ ?_; clear hK) | (clear hK; clear hK; refine hK _ _ ?_; clear hK)))
        refine PL.callB rfl rfl (by kernel_rfl) (both_ok (fun p q => decide (p = q)) (againF N ms[n]) w N hN hw) (by simp [go_sem]) (by simp [go_sem, nM]) (by simp [go_sem, nM]) ?_
        repeat (refine PL.k rfl fun KK hKK => ?_; simp [go_sem, stepK]; refine hKK _ ?_; clear hKK KK)
        refine PL.nil ⟨by simp [go_sem, f0], by simp [go_sem, f1], by simp [go_sem, f5], by simp [go_sem, f6], by simp [go_sem], by simp [go_sem, tabX, e, n1, hN]⟩
      · have n1 := k567 (by rw [e]; rfl)
        repeat (first | (refine PC.seq fun K hK => ?_) | (refine PC.block ?_) | (refine PC.region ?_) | (refine PL.k rfl fun KK hKK => ?_; simp (disch := omega) [go_sem, stepK, f0', f5', f6, hlt, hkm, encX, e, f1, n1]; refine hKK _ ?_; clear hKK KK) | (refine PL.k rfl fun KK hKK => ?_; simp [go_sem, stepK, f0', f5', f6, hlt, hkm, encX, e, f1, n1]; refine hKK _ ?_; clear hKK KK) | (refine PL.g rfl rfl fun KK hKK => ?_; simp (disch := omega) [go_sem, L.stepG, f0', f5', f6, hlt, hkm, encX, e, f1, n1]; refine hKK _ ?_; clear hKK KK) | (refine PL.g rfl rfl fun KK hKK => ?_; simp [go_sem, L.stepG, f0', f5', f6, hlt, hkm, encX, e, f1, n1]; refine hKK _ ?_; clear hKK KK) | (refine PL.done hK ?_; clear hK) | (refine PC.skip (hK _ _ ?_); clear hK) | (refine PC.condT ?_ ?_; focus (simp [go_sem, f0', f5', f6, hlt, hkm, encX, e, f1, n1]; done)) | (refine PC.condF ?_ ?_; focus (simp [go_sem, f0', f5', f6, hlt, hkm, encX, e, f1, n1]; done)) | (refine PC.exit ?_; first | (refine hK _ _ ?_; clear hK) | (clear hK; refine hK _ _ ?_; clear hK) | (clear hK; clear hK; refine hK _ _ ?_; clear hK)))
        refine PL.callB rfl rfl (by kernel_rfl) (again_ok ms[n] w N hN hw) (by simp [go_sem]) (by simp [go_sem, nM]) (by simp [go_sem, nM]) ?_
        repeat (refine PL.k rfl fun KK hKK => ?_; simp [go_sem, stepK]; refine hKK _ ?_; clear hKK KK)
        refine PL.nil ⟨by simp [go_sem, f0], by simp [go_sem, f1], by simp [go_sem, f5], by simp [go_sem, f6], by simp [go_sem], by simp [go_sem, tabX, e, n1, hN]⟩
      · have n1 := k567 (by rw [e]; rfl)
        repeat (first | (refine PC.seq fun K hK => ?_) | (refine PC.block ?_) | (refine PC.region ?_) | (refine PL.k rfl fun KK hKK => ?_; simp (disch := omega) [go_sem, stepK, f0', f5', f6, hlt, hkm, encX, e, f1, n1]; refine hKK _ ?_; clear hKK KK) | (refine PL.k rfl fun KK hKK => ?_; simp [go_sem, stepK, f0', f5', f6, hlt, hkm, encX, e, f1, n1]; refine hKK _ ?_; clear hKK KK) | (refine PL.g rfl rfl fun KK hKK => ?_; simp (disch := omega) [go_sem, L.stepG, f0', f5', f6, hlt, hkm, encX, e, f1, n1]; refine hKK _ ?_; clear hKK KK) | (refine PL.g rfl rfl fun KK hKK => ?_; simp [go_sem, L.stepG, f0', f5', f6, hlt, hkm, encX, e, f1, n1]; refine hKK _ ?_; clear hKK KK) | (refine PL.done hK ?_; clear hK) | (refine PC.skip (hK _ _ ?_); clear hK) | (refine PC.condT ?_ ?_; focus (simp [go_sem, f0', f5', f6, hlt, hkm, encX, e, f1, n1]; done)) | (refine PC.condF ?_ ?_; focus (simp [go_sem, f0', f5', f6, hlt, hkm, encX, e, f1, n1]; done)) | (refine PC.exit ?_; first | (refine hK _ _ ?_; clear hK) | (clear hK; refine hK _ _ ?_; clear hK) | (clear hK; clear hK; refine hK _ _ ?_; clear hK)))
        refine PL.callB rfl rfl (by kernel_rfl) (both_ok (fun p q => decide (p = q)) ms[n] w N hN hw) (by simp [go_sem]) (by simp [go_sem, nM]) (by simp [go_sem, nM]) ?_
        repeat (refine PL.k rfl fun KK hKK => ?_; simp [go_sem, stepK]; refine hKK _ ?_; clear hKK KK)
        refine PL.nil ⟨by simp [go_sem, f0], by simp [go_sem, f1], by simp [go_sem, f5], by simp [go_sem, f6], by simp [go_sem], by simp [go_sem, tabX, e, n1, hN]⟩
    · clear f0 f1 f5 f6 f0' f5' F
      intro F H2 ⟨f0, f1, f5, f6, f7, f8⟩
      have hst : stepT w ms l[i] = ms.take n ++ [tabX w l[i] ms n] := by rw [hn]; rfl
      generalize tabX w l[i] ms n = f at *
      have f5' : F 5 = .sl 1 (ms.map (matV N)) := f5
      have hnm : n ≤ ms.length := by omega
      refine PC.region ?_
      refine PL.buildSliceA 60 (d := 95) rfl rfl rfl (by simp) selem_132 rfl (by omega) (by unfold maxLen; omega) (ips := []) (by simp [go_sem]) (by simp [litOk]) (cs := []) rfl fun v3 H3 b3 o3 => ?_
      repeat (first | (refine PC.seq fun K hK => ?_) | (refine PC.block ?_) | (refine PC.region ?_) | (refine PL.k rfl fun KK hKK => ?_; simp (disch := omega) [go_sem, stepK, f5', f7, hnm]; refine hKK _ ?_; clear hKK KK) | (refine PL.k rfl fun KK hKK => ?_; simp [go_sem, stepK, f5', f7, hnm]; refine hKK _ ?_; clear hKK KK) | (refine PL.g rfl rfl fun KK hKK => ?_; simp (disch := omega) [go_sem, L.stepG, f5', f7, hnm]; refine hKK _ ?_; clear hKK KK) | (refine PL.g rfl rfl fun KK hKK => ?_; simp [go_sem, L.stepG, f5', f7, hnm]; refine hKK _ ?_; clear hKK KK) | (refine PL.done hK ?_; clear hK) | (refine PC.skip (hK _ _ ?_); clear hK) | (refine PC.condT ?_ ?_; focus (simp [go_sem, f5', f7, hnm]; done)) | (refine PC.condF ?_ ?_; focus (simp [go_sem, f5', f7, hnm]; done)) | (refine PC.exit ?_; first | (refine hK _ _ ?_; clear hK) | (clear hK; refine hK _ _ ?_; clear hK) | (clear hK; clear hK; refine hK _ _ ?_; clear hK)))
      refine PL.appendP (d := 99) (id := 60) (ver := v3) (m := 0) (m2 := n) (cs := []) (cs2 := (ms.take n).map (matV N)) (px := .sl 1 ((ms.take n).map (matV N))) rfl rfl rfl (by simp) selem_132 (by simp [go_sem]) b3 (by simp [go_sem]) (by rw [srcP, msV_cells]; simp; omega) (fun p hp => by obtain ⟨y, _, rfl⟩ := List.mem_map.1 hp; rfl) (by unfold maxLen; omega) (by omega) fun v4 H4 b4 o4 => ?_
      repeat (first | (refine PC.seq fun K hK => ?_) | (refine PC.block ?_) | (refine PC.region ?_) | (refine PL.k rfl fun KK hKK => ?_; simp (disch := omega) [go_sem, stepK, f8]; refine hKK _ ?_; clear hKK KK) | (refine PL.k rfl fun KK hKK => ?_; simp [go_sem, stepK, f8]; refine hKK _ ?_; clear hKK KK) | (refine PL.g rfl rfl fun KK hKK => ?_; simp (disch := omega) [go_sem, L.stepG, f8]; refine hKK _ ?_; clear hKK KK) | (refine PL.g rfl rfl fun KK hKK => ?_; simp [go_sem, L.stepG, f8]; refine hKK _ ?_; clear hKK KK) | (refine PL.done hK ?_; clear hK) | (refine PC.skip (hK _ _ ?_); clear hK) | (refine PC.condT ?_ ?_; focus (simp [go_sem, f8]; done)) | (refine PC.condF ?_ ?_; focus (simp [go_sem, f8]; done)) | (refine PC.exit ?_; first | (refine hK _ _ ?_; clear hK) | (clear hK; refine hK _ _ ?_; clear hK) | (clear hK; clear hK; refine hK _ _ ?_; clear hK)))
      refine PL.buildSliceR (d := 101) rfl rfl rfl (by simp) selem_132 rfl (by omega) (ips := [(0, matV N f)]) (by simp [go_sem]) (by simp [litOk, go_sem, okC, matV]) (ps := [matV N f]) rfl ?_
      refine PL.appendP (d := 102) (id := 60) (ver := v4) (m := 0 + n) (m2 := 1) (cs := [] ++ (ms.take n).map (matV N)) (cs2 := [matV N f]) (px := .sl 1 [matV N f]) rfl rfl rfl (by simp) selem_132 (by simp [go_sem]) b4 (by simp [go_sem]) (by simp [srcP, matV, PV.cells]) (by simp [leafOk, matV]) (by unfold maxLen; omega) (by omega) fun v5 H5 b5 o5 => ?_
      repeat (refine PL.k rfl fun KK hKK => ?_; simp [go_sem, stepK]; refine hKK _ ?_; clear hKK KK)
      refine PL.done hK ?_; clear hK
      refine PC.freeze 5 ((ms.take n ++ [f]).map (matV N)) (by simp [go_sem]) b5 (by rw [msV_cells]; simp) (fun y hy => by obtain ⟨z, _, rfl⟩ := List.mem_map.1 hy; rfl) (by simp; omega) fun H6 o6 => ?_
      refine PC.region ?_
      repeat (first | (refine PC.seq fun K hK => ?_) | (refine PC.block ?_) | (refine PC.region ?_) | (refine PL.k rfl fun KK hKK => ?_; simp (disch := omega) [go_sem, stepK, f6]; refine hKK _ ?_; clear hKK KK) | (refine PL.k rfl fun KK hKK => ?_; simp [go_sem, stepK, f6]; refine hKK _ ?_; clear hKK KK) | (refine PL.g rfl rfl fun KK hKK => ?_; simp (disch := omega) [go_sem, L.stepG, f6]; refine hKK _ ?_; clear hKK KK) | (refine PL.g rfl rfl fun KK hKK => ?_; simp [go_sem, L.stepG, f6]; refine hKK _ ?_; clear hKK KK) | (refine PL.done hK ?_; clear hK) | (refine PC.skip (hK _ _ ?_); clear hK) | (refine PC.condT ?_ ?_; focus (simp [go_sem, f6]; done)) | (refine PC.condF ?_ ?_; focus (simp [go_sem, f6]; done)) | (refine PC.exit ?_; first | (refine hK _ _ ?_; clear hK) | (clear hK; refine hK _ _ ?_; clear hK) | (clear hK; clear hK; refine hK _ _ ?_; clear hK)))
      have hl2 := stepT_len w ms l[i] h0 hof
      refine PL.nil ⟨l.length - (i + 1), by omega, i + 1, by omega, by omega, by simp [go_sem, f0], by simp [go_sem, f1], by simp [go_sem, hsucc, hst, msV], by simp [go_sem], by rw [hsucc, hl2]; exact hnext, by rw [hsucc]; omega⟩
  · have hie : i = l.length := by omega
    rw [hie, List.take_length, hr] at f5
    repeat (first | (refine PC.seq fun K hK => ?_) | (refine PC.block ?_) | (refine PC.region ?_) | (refine PL.k rfl fun KK hKK => ?_; simp (disch := omega) [go_sem, stepK, f0, f5, f6, hlt, msV]; refine hKK _ ?_; clear hKK KK) | (refine PL.k rfl fun KK hKK => ?_; simp [go_sem, stepK, f0, f5, f6, hlt, msV]; refine hKK _ ?_; clear hKK KK) | (refine PL.g rfl rfl fun KK hKK => ?_; simp (disch := omega) [go_sem, L.stepG, f0, f5, f6, hlt, msV]; refine hKK _ ?_; clear hKK KK) | (refine PL.g rfl rfl fun KK hKK => ?_; simp [go_sem, L.stepG, f0, f5, f6, hlt, msV]; refine hKK _ ?_; clear hKK KK) | (refine PL.done hK ?_; clear hK) | (refine PC.skip (hK _ _ ?_); clear hK) | (refine PC.condT ?_ ?_; focus (simp [go_sem, f0, f5, f6, hlt, msV]; done)) | (refine PC.condF ?_ ?_; focus (simp [go_sem, f0, f5, f6, hlt, msV]; done)) | (refine PC.exit ?_; first | (refine hK _ _ ?_; clear hK) | (clear hK; refine hK _ _ ?_; clear hK) | (clear hK; clear hK; refine hK _ _ ?_; clear hK)))
    (refine PC.ret ?_; refine fin (.inr rfl) (by simp [resP, resP1, Try.results96, go_sem, nM]) (by simp [go_sem, nM]))
end Go.Proofs.Ytficeeaaaijgcaa

/-
  Chapter 9's reference: Ends, Says, over pure values.
-/
namespace Go.Proofs.Ytficeeaaaijgcaa
open Go Go.RowKit L
set_option linter.unusedVariables false
set_option linter.unusedSimpArgs false

def endsN (N : Nat) (m : Mt) : List Int := ((List.range N).filter fun q => m 0 q).map fun q : Nat => (q : Int)
theorem endsN_succ (N : Nat) (m : Mt) : endsN (N + 1) m = endsN N m ++ (if m 0 N = true then [(N : Int)] else []) := by
  unfold endsN
  rw [List.range_succ, List.filter_append, List.map_append]
  congr 1
  by_cases h : m 0 N <;> simp [h]
theorem endsN_len (N : Nat) (m : Mt) : (endsN N m).length ≤ N := by
  have := List.length_filter_le (fun q => m 0 q) (List.range N)
  simpa [endsN] using this
theorem endsN_lt (N : Nat) (m : Mt) : ∀ x ∈ endsN N m, 0 ≤ x ∧ x < N := fun x hx => by
  simp [endsN] at hx
  obtain ⟨q, ⟨h, _⟩, rfl⟩ := hx
  omega

def tabT (w : ByteArray) : E → Mt
  | .set s0 s1 s2 s3 => setF ⟨1, s0, s1, s2, s3⟩ w
  | .empty => fun p q => decide (p = q)
  | .cat a b => behK (tabT w a) (tabT w b) (w.size + 1)
  | .alt a b => fun p q => tabT w a p q || tabT w b p q
  | .star a => fun p q => decide (p = q) || againF (w.size + 1) (tabT w a) p q
  | .plus a => againF (w.size + 1) (tabT w a)
  | .opt a => fun p q => decide (p = q) || tabT w a p q
theorem runT_post (w : ByteArray) (e : E) : ∀ ms, (post e).foldl (stepT w) ms = ms ++ [tabT w e] := by
  have one : ∀ (ms : List Mt) (a : Mt) (x : Rx), ofK x.kind = 1 → stepT w (ms ++ [a]) x = ms ++ [tabX w x (ms ++ [a]) ms.length] := fun ms a x h => by
    simp [stepT, h]
  have two : ∀ (ms : List Mt) (a b : Mt) (x : Rx), ofK x.kind = 2 → stepT w (ms ++ [a] ++ [b]) x = ms ++ [tabX w x (ms ++ [a] ++ [b]) ms.length] := fun ms a b x h => by
    simp [stepT, h]
  induction e with
  | set s0 s1 s2 s3 => intro ms; simp [post, stepT, ofK, tabX, tabT]
  | empty => intro ms; simp [post, bareX, stepT, ofK, tabX, tabT]
  | cat a b iha ihb =>
    intro ms
    simp only [post, List.foldl_append, iha, ihb, List.foldl_cons, List.foldl_nil]
    rw [two _ _ _ _ rfl]
    simp [tabX, bareX, tabT]
  | alt a b iha ihb =>
    intro ms
    simp only [post, List.foldl_append, iha, ihb, List.foldl_cons, List.foldl_nil]
    rw [two _ _ _ _ rfl]
    simp [tabX, bareX, tabT]
  | star a iha =>
    intro ms
    simp only [post, List.foldl_append, iha, List.foldl_cons, List.foldl_nil]
    rw [one _ _ _ rfl]
    simp [tabX, bareX, tabT]
  | plus a iha =>
    intro ms
    simp only [post, List.foldl_append, iha, List.foldl_cons, List.foldl_nil]
    rw [one _ _ _ rfl]
    simp [tabX, bareX, tabT]
  | opt a iha =>
    intro ms
    simp only [post, List.foldl_append, iha, List.foldl_cons, List.foldl_nil]
    rw [one _ _ _ rfl]
    simp [tabX, bareX, tabT]

set_option maxRecDepth 20000 in
set_option maxHeartbeats 2000000 in
theorem Ends_ok (l : List Rx) (e : E) (he : WfX l e) (w : ByteArray) (N : Nat) (hN : N = w.size + 1) (hw : w.size ≤ 1000) : PCall Try.prog 64 [slX l, S w, I 0] (· = slI (endsN N (tabT w e))) := by
  have hc := he.check
  have nM := matV_noP N
  have nX := slX_noP l
  have hr : runT w l = [tabT w e] := by rw [he.2]; simpa [runT] using runT_post w e []
  refine PCall.intro' Try.func64 rfl Try.ntmps64 (by simp) fun W => ?_
  repeat (first | (refine PC.seq fun K hK => ?_) | (refine PC.block ?_) | (refine PC.region ?_) | (refine PL.k rfl fun KK hKK => ?_; simp (disch := omega) [go_sem, stepK]; refine hKK _ ?_; clear hKK KK) | (refine PL.k rfl fun KK hKK => ?_; simp [go_sem, stepK]; refine hKK _ ?_; clear hKK KK) | (refine PL.g rfl rfl fun KK hKK => ?_; simp (disch := omega) [go_sem, L.stepG]; refine hKK _ ?_; clear hKK KK) | (refine PL.g rfl rfl fun KK hKK => ?_; simp [go_sem, L.stepG]; refine hKK _ ?_; clear hKK KK) | (refine PL.done hK ?_; clear hK) | (refine PC.skip (hK _ _ ?_); clear hK) | (refine PC.condT ?_ ?_; focus (simp [go_sem]; done)) | (refine PC.condF ?_ ?_; focus (simp [go_sem]; done)) | (refine PC.exit ?_; first | (refine hK _ _ ?_; clear hK) | (clear hK; refine hK _ _ ?_; clear hK) | (clear hK; clear hK; refine hK _ _ ?_; clear hK)))
  refine PL.buildSliceA 60 (d := 10) rfl rfl rfl (by simp) selem_30 rfl (by omega) (by unfold maxLen; omega) (ips := []) (by simp [go_sem]) (by simp [litOk]) (cs := []) rfl fun v0 H0 b0 o0 => ?_
  repeat (first | (refine PC.seq fun K hK => ?_) | (refine PC.block ?_) | (refine PC.region ?_) | (refine PL.k rfl fun KK hKK => ?_; simp (disch := omega) [go_sem, stepK]; refine hKK _ ?_; clear hKK KK) | (refine PL.k rfl fun KK hKK => ?_; simp [go_sem, stepK]; refine hKK _ ?_; clear hKK KK) | (refine PL.g rfl rfl fun KK hKK => ?_; simp (disch := omega) [go_sem, L.stepG]; refine hKK _ ?_; clear hKK KK) | (refine PL.g rfl rfl fun KK hKK => ?_; simp [go_sem, L.stepG]; refine hKK _ ?_; clear hKK KK) | (refine PL.done hK ?_; clear hK) | (refine PC.skip (hK _ _ ?_); clear hK) | (refine PC.condT ?_ ?_; focus (simp [go_sem]; done)) | (refine PC.condF ?_ ?_; focus (simp [go_sem]; done)) | (refine PC.exit ?_; first | (refine hK _ _ ?_; clear hK) | (clear hK; refine hK _ _ ?_; clear hK) | (clear hK; clear hK; refine hK _ _ ?_; clear hK)))
  refine PL.callB rfl rfl (by kernel_rfl) (ref7Check_ok l) (by simp [go_sem]) (by simp [go_sem, nX]) (by simp [go_sem, nX]) ?_
  repeat (first | (refine PC.seq fun K hK => ?_) | (refine PC.block ?_) | (refine PC.region ?_) | (refine PL.k rfl fun KK hKK => ?_; simp (disch := omega) [go_sem, stepK, hc]; refine hKK _ ?_; clear hKK KK) | (refine PL.k rfl fun KK hKK => ?_; simp [go_sem, stepK, hc]; refine hKK _ ?_; clear hKK KK) | (refine PL.g rfl rfl fun KK hKK => ?_; simp (disch := omega) [go_sem, L.stepG, hc]; refine hKK _ ?_; clear hKK KK) | (refine PL.g rfl rfl fun KK hKK => ?_; simp [go_sem, L.stepG, hc]; refine hKK _ ?_; clear hKK KK) | (refine PL.done hK ?_; clear hK) | (refine PC.skip (hK _ _ ?_); clear hK) | (refine PC.condT ?_ ?_; focus (simp [go_sem, hc]; done)) | (refine PC.condF ?_ ?_; focus (simp [go_sem, hc]; done)) | (refine PC.exit ?_; first | (refine hK _ _ ?_; clear hK) | (clear hK; refine hK _ _ ?_; clear hK) | (clear hK; clear hK; refine hK _ _ ?_; clear hK)))
  refine PL.callB rfl rfl (by kernel_rfl) (leads_ok l w N hN hw hc _ hr) (by simp [go_sem]) (by simp [go_sem, nX]) (by simp [go_sem, nX]) ?_
  generalize hm0 : tabT w e = m0
  have hN0 : 0 < N := by omega
  repeat (first | (refine PC.seq fun K hK => ?_) | (refine PC.block ?_) | (refine PC.region ?_) | (refine PL.k rfl fun KK hKK => ?_; simp (disch := omega) [go_sem, stepK, matV, hN0]; refine hKK _ ?_; clear hKK KK) | (refine PL.k rfl fun KK hKK => ?_; simp [go_sem, stepK, matV, hN0]; refine hKK _ ?_; clear hKK KK) | (refine PL.g rfl rfl fun KK hKK => ?_; simp (disch := omega) [go_sem, L.stepG, matV, hN0]; refine hKK _ ?_; clear hKK KK) | (refine PL.g rfl rfl fun KK hKK => ?_; simp [go_sem, L.stepG, matV, hN0]; refine hKK _ ?_; clear hKK KK) | (refine PL.done hK ?_; clear hK) | (refine PC.skip (hK _ _ ?_); clear hK) | (refine PC.condT ?_ ?_; focus (simp [go_sem, matV, hN0]; done)) | (refine PC.condF ?_ ?_; focus (simp [go_sem, matV, hN0]; done)) | (refine PC.exit ?_; first | (refine hK _ _ ?_; clear hK) | (clear hK; refine hK _ _ ?_; clear hK) | (clear hK; clear hK; refine hK _ _ ?_; clear hK)))
  refine PC.loop (fun m F H' => ∃ p v : Nat, p ≤ N ∧ m = N - p ∧ F 7 = .ps 60 v ∧ F 8 = boolsV N (m0 0) ∧ F 9 = I p ∧ H' 60 = ⟨v, some (.row 3 1 (endsN p m0).length ((endsN p m0).map I))⟩) (m := N) ⟨0, v0, by omega, by omega, by simp [go_sem], by simp [go_sem], by simp [go_sem], b0⟩ fun m F H' hI => ?_
  obtain ⟨p, v, hp, hm, f7, f8, f9, h60⟩ := hI
  have hsucc := endsN_succ p m0
  have hlen := endsN_len p m0
  by_cases hlt : p < N
  · cases hx : m0 0 p
    · repeat (first | (refine PC.seq fun K hK => ?_) | (refine PC.block ?_) | (refine PC.region ?_) | (refine PL.k rfl fun KK hKK => ?_; simp (disch := omega) [go_sem, stepK, f7, f8, f9, hlt, boolsV, hx]; refine hKK _ ?_; clear hKK KK) | (refine PL.k rfl fun KK hKK => ?_; simp [go_sem, stepK, f7, f8, f9, hlt, boolsV, hx]; refine hKK _ ?_; clear hKK KK) | (refine PL.g rfl rfl fun KK hKK => ?_; simp (disch := omega) [go_sem, L.stepG, f7, f8, f9, hlt, boolsV, hx]; refine hKK _ ?_; clear hKK KK) | (refine PL.g rfl rfl fun KK hKK => ?_; simp [go_sem, L.stepG, f7, f8, f9, hlt, boolsV, hx]; refine hKK _ ?_; clear hKK KK) | (refine PL.done hK ?_; clear hK) | (refine PC.skip (hK _ _ ?_); clear hK) | (refine PC.condT ?_ ?_; focus (simp [go_sem, f7, f8, f9, hlt, boolsV, hx]; done)) | (refine PC.condF ?_ ?_; focus (simp [go_sem, f7, f8, f9, hlt, boolsV, hx]; done)) | (refine PC.exit ?_; first | (refine hK _ _ ?_; clear hK) | (clear hK; refine hK _ _ ?_; clear hK) | (clear hK; clear hK; refine hK _ _ ?_; clear hK)))
      refine PL.nil ⟨N - (p + 1), by omega, p + 1, v, by omega, by omega, by simp [go_sem, f7], by simp [go_sem, f8, boolsV], by simp [go_sem], ?_⟩
      rw [hsucc, hx]; simpa using h60
    · repeat (first | (refine PC.seq fun K hK => ?_) | (refine PC.block ?_) | (refine PC.region ?_) | (refine PL.k rfl fun KK hKK => ?_; simp (disch := omega) [go_sem, stepK, f7, f8, f9, hlt, boolsV, hx]; refine hKK _ ?_; clear hKK KK) | (refine PL.k rfl fun KK hKK => ?_; simp [go_sem, stepK, f7, f8, f9, hlt, boolsV, hx]; refine hKK _ ?_; clear hKK KK) | (refine PL.g rfl rfl fun KK hKK => ?_; simp (disch := omega) [go_sem, L.stepG, f7, f8, f9, hlt, boolsV, hx]; refine hKK _ ?_; clear hKK KK) | (refine PL.g rfl rfl fun KK hKK => ?_; simp [go_sem, L.stepG, f7, f8, f9, hlt, boolsV, hx]; refine hKK _ ?_; clear hKK KK) | (refine PL.done hK ?_; clear hK) | (refine PC.skip (hK _ _ ?_); clear hK) | (refine PC.condT ?_ ?_; focus (simp [go_sem, f7, f8, f9, hlt, boolsV, hx]; done)) | (refine PC.condF ?_ ?_; focus (simp [go_sem, f7, f8, f9, hlt, boolsV, hx]; done)) | (refine PC.exit ?_; first | (refine hK _ _ ?_; clear hK) | (clear hK; refine hK _ _ ?_; clear hK) | (clear hK; clear hK; refine hK _ _ ?_; clear hK)))
      refine PL.buildSliceR (d := 43) rfl rfl rfl (by simp) selem_30 rfl (by omega) (ips := [(0, I p)]) (by simp [go_sem]) (by simp [litOk, go_sem, okC]) (ps := [I p]) rfl ?_
      refine PL.appendP (d := 44) (id := 60) (ver := v) (m := (endsN p m0).length) (m2 := 1) (cs := (endsN p m0).map I) (cs2 := [I p]) (px := .sl 1 [I p]) rfl rfl rfl (by simp) selem_30 (by simp [go_sem]) h60 (by simp [go_sem]) (by simp [srcP, PV.cells]) (by simp [leafOk, Value.oneCell']) (by unfold maxLen; omega) (by omega) fun v2 H2 b2 o2 => ?_
      repeat (first | (refine PC.seq fun K hK => ?_) | (refine PC.block ?_) | (refine PC.region ?_) | (refine PL.k rfl fun KK hKK => ?_; simp (disch := omega) [go_sem, stepK, f9]; refine hKK _ ?_; clear hKK KK) | (refine PL.k rfl fun KK hKK => ?_; simp [go_sem, stepK, f9]; refine hKK _ ?_; clear hKK KK) | (refine PL.g rfl rfl fun KK hKK => ?_; simp (disch := omega) [go_sem, L.stepG, f9]; refine hKK _ ?_; clear hKK KK) | (refine PL.g rfl rfl fun KK hKK => ?_; simp [go_sem, L.stepG, f9]; refine hKK _ ?_; clear hKK KK) | (refine PL.done hK ?_; clear hK) | (refine PC.skip (hK _ _ ?_); clear hK) | (refine PC.condT ?_ ?_; focus (simp [go_sem, f9]; done)) | (refine PC.condF ?_ ?_; focus (simp [go_sem, f9]; done)) | (refine PC.exit ?_; first | (refine hK _ _ ?_; clear hK) | (clear hK; refine hK _ _ ?_; clear hK) | (clear hK; clear hK; refine hK _ _ ?_; clear hK)))
      refine PL.nil ⟨N - (p + 1), by omega, p + 1, v2, by omega, by omega, by simp [go_sem], by simp [go_sem, f8, boolsV], by simp [go_sem], ?_⟩
      rw [hsucc, hx, b2]; simp
  · have hpe : p = N := by omega
    repeat (first | (refine PC.seq fun K hK => ?_) | (refine PC.block ?_) | (refine PC.region ?_) | (refine PL.k rfl fun KK hKK => ?_; simp (disch := omega) [go_sem, stepK, f7, f8, f9, hlt, boolsV]; refine hKK _ ?_; clear hKK KK) | (refine PL.k rfl fun KK hKK => ?_; simp [go_sem, stepK, f7, f8, f9, hlt, boolsV]; refine hKK _ ?_; clear hKK KK) | (refine PL.g rfl rfl fun KK hKK => ?_; simp (disch := omega) [go_sem, L.stepG, f7, f8, f9, hlt, boolsV]; refine hKK _ ?_; clear hKK KK) | (refine PL.g rfl rfl fun KK hKK => ?_; simp [go_sem, L.stepG, f7, f8, f9, hlt, boolsV]; refine hKK _ ?_; clear hKK KK) | (refine PL.done hK ?_; clear hK) | (refine PC.skip (hK _ _ ?_); clear hK) | (refine PC.condT ?_ ?_; focus (simp [go_sem, f7, f8, f9, hlt, boolsV]; done)) | (refine PC.condF ?_ ?_; focus (simp [go_sem, f7, f8, f9, hlt, boolsV]; done)) | (refine PC.exit ?_; first | (refine hK _ _ ?_; clear hK) | (clear hK; refine hK _ _ ?_; clear hK) | (clear hK; clear hK; refine hK _ _ ?_; clear hK)))
    refine PC.ret ?_
    refine ⟨.inr rfl, .ps 60 v, slI (endsN p m0), ?_, ?_, noP_slI _, by rw [hpe, hm0]⟩
    · simp [resP, resP1, Try.results64, go_sem]
    · exact View.row1 (t := 3) (n := (endsN p m0).length) (by simp [liveRow, h60]) (by simp) fun c hc => by obtain ⟨q, _, rfl⟩ := List.mem_map.1 hc; exact ⟨.u _, rfl⟩

def saysT (e : E) (w : ByteArray) : Bool := tabT w e 0 w.size

set_option maxRecDepth 20000 in
set_option maxHeartbeats 2000000 in
theorem Says_ok (l : List Rx) (e : E) (he : WfX l e) (w : ByteArray) (hw : w.size ≤ 1000) : PCall Try.prog 27 [slX l, S w] (· = B (saysT e w)) := by
  have nX := slX_noP l
  have hE := Ends_ok l e he w _ rfl hw
  unfold saysT
  generalize tabT w e = m0 at *
  rw [endsN_succ] at hE
  have hlt := endsN_lt w.size m0
  have hAl := endsN_len w.size m0
  generalize endsN w.size m0 = A at *
  have hgx : ∀ (A : List Int) (a : Int), (A.map I ++ [I a])[A.length]? = some (I a) := fun A a => by
    rw [List.getElem?_append_right (by simp)]; simp
  refine PCall.intro' Try.func27 rfl Try.ntmps27 (by simp) fun W => ?_
  repeat (first | (refine PC.seq fun K hK => ?_) | (refine PC.block ?_) | (refine PC.region ?_) | (refine PL.k rfl fun KK hKK => ?_; simp (disch := omega) [go_sem, stepK]; refine hKK _ ?_; clear hKK KK) | (refine PL.k rfl fun KK hKK => ?_; simp [go_sem, stepK]; refine hKK _ ?_; clear hKK KK) | (refine PL.g rfl rfl fun KK hKK => ?_; simp (disch := omega) [go_sem, L.stepG]; refine hKK _ ?_; clear hKK KK) | (refine PL.g rfl rfl fun KK hKK => ?_; simp [go_sem, L.stepG]; refine hKK _ ?_; clear hKK KK) | (refine PL.done hK ?_; clear hK) | (refine PC.skip (hK _ _ ?_); clear hK) | (refine PC.condT ?_ ?_; focus (simp [go_sem]; done)) | (refine PC.condF ?_ ?_; focus (simp [go_sem]; done)) | (refine PC.exit ?_; first | (refine hK _ _ ?_; clear hK) | (clear hK; refine hK _ _ ?_; clear hK) | (clear hK; clear hK; refine hK _ _ ?_; clear hK)))
  refine PL.callB rfl rfl (by kernel_rfl) hE (by simp [go_sem]) (by simp [go_sem, nX]) (by simp [go_sem, nX]) ?_
  cases hx : m0 0 w.size
  · simp only [Bool.false_eq_true, if_false, List.append_nil]
    rcases List.eq_nil_or_concat A with rfl | ⟨A', a, rfl⟩
    · repeat (first | (refine PC.seq fun K hK => ?_) | (refine PC.block ?_) | (refine PC.region ?_) | (refine PL.k rfl fun KK hKK => ?_; simp (disch := omega) [go_sem, stepK, slI]; refine hKK _ ?_; clear hKK KK) | (refine PL.k rfl fun KK hKK => ?_; simp [go_sem, stepK, slI]; refine hKK _ ?_; clear hKK KK) | (refine PL.g rfl rfl fun KK hKK => ?_; simp (disch := omega) [go_sem, L.stepG, slI]; refine hKK _ ?_; clear hKK KK) | (refine PL.g rfl rfl fun KK hKK => ?_; simp [go_sem, L.stepG, slI]; refine hKK _ ?_; clear hKK KK) | (refine PL.done hK ?_; clear hK) | (refine PC.skip (hK _ _ ?_); clear hK) | (refine PC.condT ?_ ?_; focus (simp [go_sem, slI]; done)) | (refine PC.condF ?_ ?_; focus (simp [go_sem, slI]; done)) | (refine PC.exit ?_; first | (refine hK _ _ ?_; clear hK) | (clear hK; refine hK _ _ ?_; clear hK) | (clear hK; clear hK; refine hK _ _ ?_; clear hK)))
      (refine PC.ret ?_; refine fin (.inr rfl) (by simp [resP, resP1, Try.results27, go_sem, hx]) (by simp [go_sem, hx]))
    · have ha := hlt a (by simp)
      simp at hAl
      have hne : ¬ a = (w.size : Int) := by omega
      have h1 : (0 : Int) ≤ A'.length := by omega
      repeat (first | (refine PC.seq fun K hK => ?_) | (refine PC.block ?_) | (refine PC.region ?_) | (refine PL.k rfl fun KK hKK => ?_; simp (disch := omega) [go_sem, stepK, slI, hgx, h1]; refine hKK _ ?_; clear hKK KK) | (refine PL.k rfl fun KK hKK => ?_; simp [go_sem, stepK, slI, hgx, h1]; refine hKK _ ?_; clear hKK KK) | (refine PL.g rfl rfl fun KK hKK => ?_; simp (disch := omega) [go_sem, L.stepG, slI, hgx, h1]; refine hKK _ ?_; clear hKK KK) | (refine PL.g rfl rfl fun KK hKK => ?_; simp [go_sem, L.stepG, slI, hgx, h1]; refine hKK _ ?_; clear hKK KK) | (refine PL.done hK ?_; clear hK) | (refine PC.skip (hK _ _ ?_); clear hK) | (refine PC.condT ?_ ?_; focus (simp [go_sem, slI, hgx, h1]; done)) | (refine PC.condF ?_ ?_; focus (simp [go_sem, slI, hgx, h1]; done)) | (refine PC.exit ?_; first | (refine hK _ _ ?_; clear hK) | (clear hK; refine hK _ _ ?_; clear hK) | (clear hK; clear hK; refine hK _ _ ?_; clear hK)))
      (refine PC.ret ?_; refine fin (.inr rfl) (by simp [resP, resP1, Try.results27, go_sem, hne, hx]) (by simp [go_sem, hne, hx]))
  · simp only [if_true]
    have h1 : (0 : Int) ≤ A.length := by omega
    repeat (first | (refine PC.seq fun K hK => ?_) | (refine PC.block ?_) | (refine PC.region ?_) | (refine PL.k rfl fun KK hKK => ?_; simp (disch := omega) [go_sem, stepK, slI, hgx, h1]; refine hKK _ ?_; clear hKK KK) | (refine PL.k rfl fun KK hKK => ?_; simp [go_sem, stepK, slI, hgx, h1]; refine hKK _ ?_; clear hKK KK) | (refine PL.g rfl rfl fun KK hKK => ?_; simp (disch := omega) [go_sem, L.stepG, slI, hgx, h1]; refine hKK _ ?_; clear hKK KK) | (refine PL.g rfl rfl fun KK hKK => ?_; simp [go_sem, L.stepG, slI, hgx, h1]; refine hKK _ ?_; clear hKK KK) | (refine PL.done hK ?_; clear hK) | (refine PC.skip (hK _ _ ?_); clear hK) | (refine PC.condT ?_ ?_; focus (simp [go_sem, slI, hgx, h1]; done)) | (refine PC.condF ?_ ?_; focus (simp [go_sem, slI, hgx, h1]; done)) | (refine PC.exit ?_; first | (refine hK _ _ ?_; clear hK) | (clear hK; refine hK _ _ ?_; clear hK) | (clear hK; clear hK; refine hK _ _ ?_; clear hK)))
    (refine PC.ret ?_; refine fin (.inr rfl) (by simp [resP, resP1, Try.results27, go_sem, hx]) (by simp [go_sem, hx]))
end Go.Proofs.Ytficeeaaaijgcaa

/-
  Words and spots: a tree leads from one place of a word to another just if a chain of its spots does. Plain facts; no program here.
-/
namespace Go.Proofs.Ytficeeaaaijgcaa
open Go Go.RowKit L
set_option linter.unusedVariables false

/-! chains of a table -/
def Path (f : Mt) : Nat → Nat → Nat → Prop
  | 0, p, q => f p q = true
  | j + 1, p, q => ∃ k, Path f j p k ∧ f k q = true
def Fwd (f : Mt) : Prop := ∀ p q, f p q = true → p ≤ q
theorem Path.fwd {f : Mt} (h : Fwd f) : ∀ {j p q : Nat}, Path f j p q → p ≤ q
  | 0, _, _, hp => h _ _ hp
  | j + 1, _, _, ⟨k, h1, h2⟩ => Nat.le_trans (Path.fwd h h1) (h _ _ h2)
theorem Path.add {f : Mt} : ∀ {j i p k q : Nat}, Path f i p k → Path f j k q → Path f (i + j + 1) p q
  | 0, i, p, k, q, h1, h2 => ⟨k, h1, h2⟩
  | j + 1, i, p, k, q, h1, ⟨m, h2, h3⟩ => ⟨m, Path.add h1 h2, h3⟩
theorem Path.split {f : Mt} : ∀ {j i p q : Nat}, Path f (i + j + 1) p q → ∃ k, Path f i p k ∧ Path f j k q
  | 0, i, p, q, ⟨k, h1, h2⟩ => ⟨k, h1, h2⟩
  | j + 1, i, p, q, ⟨m, h1, h2⟩ => by
    obtain ⟨k, h3, h4⟩ := Path.split (j := j) (i := i) h1
    exact ⟨k, h3, m, h4, h2⟩
theorem Path.short {f : Mt} (hf : Fwd f) : ∀ {j p q : Nat}, Path f j p q → ∃ i, i ≤ q - p ∧ Path f i p q
  | 0, p, q, h => ⟨0, by omega, h⟩
  | j + 1, p, q, ⟨k, h1, h2⟩ => by
    obtain ⟨i, hi, h3⟩ := Path.short hf h1
    have hk := hf _ _ h2
    have hpk := Path.fwd hf h1
    by_cases e : k = q
    · subst e; exact ⟨i, hi, h3⟩
    · exact ⟨i + 1, by omega, k, h3, h2⟩

theorem behK_iff {fa fb : Mt} {k p q : Nat} : behK fa fb k p q = true ↔ ∃ r, r < k ∧ p ≤ r ∧ r ≤ q ∧ fa p r = true ∧ fb r q = true := by
  simp [behK, List.any_eq_true]
  constructor
  · rintro ⟨r, h1, h2, h3⟩; exact ⟨r, h1, h2.1.1, h2.1.2, h2.2, h3⟩
  · rintro ⟨r, h1, h2, h3, h4, h5⟩; exact ⟨r, h1, ⟨⟨h2, h3⟩, h4⟩, h5⟩
theorem sqF_fwd {N : Nat} {f : Mt} (h : Fwd f) : Fwd (sqF N f) := fun p q hq => by
  simp only [sqF, Bool.or_eq_true] at hq
  rcases hq with hq | hq
  · exact h _ _ hq
  · obtain ⟨r, _, h1, h2, _⟩ := behK_iff.1 hq; omega
theorem againR_fwd {N : Nat} : ∀ (k n : Nat) (f : Mt), Fwd f → Fwd (againR N k n f)
  | 0, _, _, h => h
  | k + 1, n, f, h => by
    rw [againR]
    split
    · exact againR_fwd k _ _ (sqF_fwd h)
    · exact h
theorem again_iff {N : Nat} {f : Mt} (hf : Fwd f) : ∀ (k n : Nat) (g : Mt), 1 ≤ n → N < n + k → (∀ p q, p < N → q < N → (g p q = true ↔ ∃ j, j < n ∧ Path f j p q)) → ∀ p q, p < N → q < N → (againR N k n g p q = true ↔ ∃ j, Path f j p q) := by
  have stop : ∀ (n : Nat) (g : Mt), N < n → (∀ p q, p < N → q < N → (g p q = true ↔ ∃ j, j < n ∧ Path f j p q)) → ∀ p q, p < N → q < N → (g p q = true ↔ ∃ j, Path f j p q) := fun n g hn hg p q hp hq => by
    rw [hg p q hp hq]
    constructor
    · rintro ⟨j, _, h⟩; exact ⟨j, h⟩
    · rintro ⟨j, h⟩
      obtain ⟨i, hi, h2⟩ := h.short hf
      exact ⟨i, by omega, h2⟩
  intro k
  induction k with
  | zero => intro n g h1 h2 hg; exact stop n g (by omega) hg
  | succ k ih =>
    intro n g h1 h2 hg
    rw [againR]
    split
    · refine ih (2 * n) _ (by omega) (by omega) fun p q hp hq => ?_
      simp only [sqF, Bool.or_eq_true, behK_iff]
      constructor
      · rintro (h | ⟨r, hr, h3, h4, h5, h6⟩)
        · obtain ⟨j, hj, h⟩ := (hg p q hp hq).1 h; exact ⟨j, by omega, h⟩
        · obtain ⟨j, hj, h⟩ := (hg p r hp hr).1 h5
          obtain ⟨j', hj', h'⟩ := (hg r q hr hq).1 h6
          exact ⟨j + j' + 1, by omega, h.add h'⟩
      · rintro ⟨j, hj, h⟩
        by_cases e : j < n
        · exact .inl ((hg p q hp hq).2 ⟨j, e, h⟩)
        · obtain ⟨j', rfl⟩ : ∃ j', j = (n - 1) + j' + 1 := ⟨j - n, by omega⟩
          obtain ⟨m, h3, h4⟩ := h.split
          have h5 := h3.fwd hf
          have h6 := h4.fwd hf
          exact .inr ⟨m, by omega, h5, h6, (hg p m hp (by omega)).2 ⟨n - 1, by omega, h3⟩, (hg m q (by omega) hq).2 ⟨j', by omega, h4⟩⟩
    · exact stop n g (by omega) hg
theorem againF_iff {N : Nat} {f : Mt} (hf : Fwd f) {p q : Nat} (hp : p < N) (hq : q < N) : againF N f p q = true ↔ ∃ j, Path f j p q :=
  again_iff hf N 1 f (by omega) (by omega) (fun p q _ _ => ⟨fun h => ⟨0, by omega, h⟩, fun ⟨j, hj, h⟩ => by
    obtain rfl : j = 0 := (by omega)
    exact h⟩) p q hp hq

theorem tabT_fwd (w : ByteArray) (e : E) : Fwd (tabT w e) := by
  induction e with
  | set s0 s1 s2 s3 => intro p q h; simp [tabT, setF] at h; omega
  | empty => intro p q h; simp [tabT] at h; omega
  | cat a b iha ihb => intro p q h; obtain ⟨r, _, h1, h2, _⟩ := behK_iff.1 h; omega
  | alt a b iha ihb =>
    intro p q h
    simp only [tabT, Bool.or_eq_true] at h
    rcases h with h | h
    · exact iha _ _ h
    · exact ihb _ _ h
  | star a ih =>
    intro p q h
    simp only [tabT, Bool.or_eq_true, decide_eq_true_eq] at h
    rcases h with h | h
    · omega
    · exact againR_fwd _ _ _ ih _ _ h
  | plus a ih => exact againR_fwd _ _ _ ih
  | opt a ih =>
    intro p q h
    simp only [tabT, Bool.or_eq_true, decide_eq_true_eq] at h
    rcases h with h | h
    · omega
    · exact ih _ _ h

/-! chains of spots -/
inductive Rch (F : Int → Prop) (G : Int → Int → Prop) (hs : Int → Nat → Prop) (p : Nat) : Nat → Int → Prop
  | one (s : Int) (h1 : F s) (h2 : hs s p) : Rch F G hs p (p + 1) s
  | next (i : Nat) (s t : Int) (h1 : Rch F G hs p i s) (h2 : G s t) (h3 : hs t i) : Rch F G hs p (i + 1) t
theorem Rch.lt {F : Int → Prop} {G : Int → Int → Prop} {hs : Int → Nat → Prop} {p q : Nat} {s : Int} (h : Rch F G hs p q s) : p < q := by
  induction h with
  | one => omega
  | next => omega
theorem Rch.mono {F F' : Int → Prop} {G G' : Int → Int → Prop} {hs : Int → Nat → Prop} {p q : Nat} {s : Int} (h : Rch F G hs p q s) (hF : ∀ s, F s → F' s) (hG : ∀ s t, G s t → G' s t) : Rch F' G' hs p q s := by
  induction h with
  | one s h1 h2 => exact .one s (hF s h1) h2
  | next i s t h1 h2 h3 ih => exact .next i s t ih (hG s t h2) h3
abbrev RE (hs : Int → Nat → Prop) (e : E) (n : Int) := Rch (· ∈ firstT e n) (folT e n) hs
theorem RE.range {hs : Int → Nat → Prop} {e : E} {n : Int} {p q : Nat} {s : Int} (h : RE hs e n p q s) : n ≤ s ∧ s < n + nset e := by
  cases h with
  | one _ h1 h2 => exact (first_in e n).2 s h1
  | next i s' _ h1 h2 h3 => exact (fol_in e n _ _ h2).2
theorem Rch.end {F : Int → Prop} {G : Int → Int → Prop} {hs : Int → Nat → Prop} {p q : Nat} {s : Int} (h : Rch F G hs p q s) : ∃ i, q = i + 1 ∧ hs s i := by
  cases h with
  | one _ h1 h2 => exact ⟨_, rfl, h2⟩
  | next i s' _ h1 h2 h3 => exact ⟨_, rfl, h3⟩
/-- behind a chain, another one -/
theorem Rch.join {F F' : Int → Prop} {G G' : Int → Int → Prop} {hs : Int → Nat → Prop} {L : Int → Prop} {p k q : Nat} {s' s : Int} (h1 : Rch F G hs p k s') (hL : L s') (hG : ∀ s t, G' s t → G s t) (hJ : ∀ s t, L s → F' t → G s t) (h : Rch F' G' hs k q s) : Rch F G hs p q s := by
  induction h with
  | one t h2 h3 => exact .next _ _ _ h1 (hJ _ _ hL h2) h3
  | next i s t h2 h3 h4 ih => exact .next _ _ _ ih (hG _ _ h3) h4

theorem cat_chain {hs : Int → Nat → Prop} {a b : E} {n : Int} {p q : Nat} {s : Int} (h : RE hs (.cat a b) n p q s) :
    RE hs a n p q s ∨ (freeT a = true ∧ RE hs b (n + nset a) p q s) ∨ ∃ k s', RE hs a n p k s' ∧ s' ∈ lastT a n ∧ RE hs b (n + nset a) k q s := by
  induction h with
  | one s h1 h2 =>
    simp only [firstT, List.mem_append] at h1
    rcases h1 with h1 | h1
    · exact .inl (.one s h1 h2)
    · split at h1
      · rename_i hf; exact .inr (.inl ⟨hf, .one s h1 h2⟩)
      · cases h1
  | next i s t h1 h2 h3 ih =>
    have inA : ∀ {k}, RE hs a n k i s → s < n + nset a := fun h => h.range.2
    have inB : ∀ {k}, RE hs b (n + nset a) k i s → n + nset a ≤ s := fun h => h.range.1
    rcases h2 with h2 | h2 | ⟨h2, h2'⟩
    · have hr := (fol_in a n _ _ h2).1
      rcases ih with ih | ⟨hf, ih⟩ | ⟨k, s', h4, h5, ih⟩
      · exact .inl (.next i s t ih h2 h3)
      · have := inB ih; omega
      · have := inB ih; omega
    · have hr := (fol_in b _ _ _ h2).1
      rcases ih with ih | ⟨hf, ih⟩ | ⟨k, s', h4, h5, ih⟩
      · have := inA ih; omega
      · exact .inr (.inl ⟨hf, .next i s t ih h2 h3⟩)
      · exact .inr (.inr ⟨k, s', h4, h5, .next i s t ih h2 h3⟩)
    · have hr := (last_in a n).2 s h2
      rcases ih with ih | ⟨hf, ih⟩ | ⟨k, s', h4, h5, ih⟩
      · exact .inr (.inr ⟨i, s, ih, h2, .one t h2' h3⟩)
      · have := inB ih; omega
      · have := inB ih; omega
theorem alt_chain {hs : Int → Nat → Prop} {a b : E} {n : Int} {p q : Nat} {s : Int} (h : RE hs (.alt a b) n p q s) : RE hs a n p q s ∨ RE hs b (n + nset a) p q s := by
  induction h with
  | one s h1 h2 =>
    simp only [firstT, List.mem_append] at h1
    rcases h1 with h1 | h1
    · exact .inl (.one s h1 h2)
    · exact .inr (.one s h1 h2)
  | next i s t h1 h2 h3 ih =>
    rcases h2 with h2 | h2
    · have hr := (fol_in a n _ _ h2).1
      rcases ih with ih | ih
      · exact .inl (.next i s t ih h2 h3)
      · have : n + nset a ≤ s := ih.range.1; omega
    · have hr := (fol_in b _ _ _ h2).1
      rcases ih with ih | ih
      · have : s < n + nset a := ih.range.2; omega
      · exact .inr (.next i s t ih h2 h3)
theorem plus_chain {hs : Int → Nat → Prop} {a : E} {n : Int} {p q : Nat} {s : Int} (h : RE hs (.plus a) n p q s) : RE hs a n p q s ∨ ∃ k s', RE hs (.plus a) n p k s' ∧ s' ∈ lastT a n ∧ RE hs a n k q s := by
  induction h with
  | one s h1 h2 => exact .inl (.one s h1 h2)
  | next i s t h1 h2 h3 ih =>
    rcases h2 with h2 | ⟨h2, h2'⟩
    · rcases ih with ih | ⟨k, s', h4, h5, ih⟩
      · exact .inl (.next i s t ih h2 h3)
      · exact .inr ⟨k, s', h4, h5, .next i s t ih h2 h3⟩
    · exact .inr ⟨i, s, h1, h2, .one t h2' h3⟩

/-- spot s's set has the byte at place i -/
def HsOk (w : ByteArray) (hs : Int → Nat → Prop) (e : E) (n : Int) : Prop := ∀ (j : Nat) (x : Rx) (i : Nat), (setsT e)[j]? = some x → (hs (n + j) i ↔ i < w.size ∧ hasS x (byteAt w i) = true)
theorem HsOk.left {w : ByteArray} {hs : Int → Nat → Prop} {a b e : E} {n : Int} (h : HsOk w hs e n) (he : setsT e = setsT a ++ setsT b) : HsOk w hs a n := fun j x i hx => h j x i (by
  rw [he, List.getElem?_append_left (List.getElem?_eq_some_iff.1 hx).1]; exact hx)
theorem HsOk.right {w : ByteArray} {hs : Int → Nat → Prop} {a b e : E} {n : Int} (h : HsOk w hs e n) (he : setsT e = setsT a ++ setsT b) : HsOk w hs b (n + nset a) := fun j x i hx => by
  have := h (nset a + j) x i (by
    rw [he, List.getElem?_append_right (by rw [setsT_len]; omega), setsT_len, Nat.add_sub_cancel_left]; exact hx)
  rw [← this]
  have : n + ((nset a + j : Nat) : Int) = n + nset a + j := by omega
  rw [this]

def Leads (w : ByteArray) (hs : Int → Nat → Prop) (e : E) (n : Int) : Prop := ∀ p q, p ≤ w.size → q ≤ w.size → (tabT w e p q = true ↔ (p = q ∧ freeT e = true) ∨ ∃ s, RE hs e n p q s ∧ s ∈ lastT e n)

theorem plus_leads {w : ByteArray} {hs : Int → Nat → Prop} {a : E} {n : Int} (h : Leads w hs a n) {p q : Nat} (hp : p ≤ w.size) (hq : q ≤ w.size) : againF (w.size + 1) (tabT w a) p q = true ↔ (p = q ∧ freeT a = true) ∨ ∃ s, RE hs (.plus a) n p q s ∧ s ∈ lastT a n := by
  have hf := tabT_fwd w a
  rw [againF_iff hf (by omega) (by omega)]
  have up : ∀ {p q s}, RE hs a n p q s → RE hs (.plus a) n p q s := fun h => h.mono (fun _ h => h) (fun _ _ h => .inl h)
  constructor
  · rintro ⟨j, hj⟩
    induction j generalizing q with
    | zero =>
      rcases (h p q hp hq).1 hj with h1 | ⟨s, h1, h2⟩
      · exact .inl h1
      · exact .inr ⟨s, up h1, h2⟩
    | succ j ih =>
      obtain ⟨k, h1, h2⟩ := hj
      have hk : k ≤ q := hf _ _ h2
      rcases ih (by omega) h1 with ⟨rfl, h3⟩ | ⟨s', h3, h4⟩
      · rcases (h p q hp hq).1 h2 with h1 | ⟨s, h1, h2⟩
        · exact .inl h1
        · exact .inr ⟨s, up h1, h2⟩
      · rcases (h k q (by omega) hq).1 h2 with ⟨rfl, _⟩ | ⟨s, h5, h6⟩
        · exact .inr ⟨s', h3, h4⟩
        · exact .inr ⟨s, h3.join (L := (· ∈ lastT a n)) h4 (fun _ _ h => .inl h) (fun _ _ h1 h2 => .inr ⟨h1, h2⟩) h5, h6⟩
  · rintro (⟨rfl, h1⟩ | ⟨s, h1, h2⟩)
    · exact ⟨0, (h p p hp hq).2 (.inl ⟨rfl, h1⟩)⟩
    · induction q using Nat.strongRecOn generalizing s with
      | _ q ih =>
        rcases plus_chain h1 with h3 | ⟨k, s', h3, h4, h5⟩
        · exact ⟨0, (h p q hp hq).2 (.inr ⟨s, h3, h2⟩)⟩
        · have hkq := h5.lt
          obtain ⟨j, hj⟩ := ih k hkq (by omega) s' h3 h4
          exact ⟨j + 1, k, hj, (h k q (by omega) hq).2 (.inr ⟨s, h5, h2⟩)⟩

theorem leads_any (w : ByteArray) (hs : Int → Nat → Prop) (e : E) : ∀ n : Int, HsOk w hs e n → Leads w hs e n := by
  induction e with
  | set s0 s1 s2 s3 =>
    intro n hok p q hp hq
    have hh : ∀ i, hs n i ↔ i < w.size ∧ hasS ⟨1, s0, s1, s2, s3⟩ (byteAt w i) = true := fun i => by
      have := hok 0 _ i (by simp [setsT]; rfl)
      simpa using this
    simp only [tabT, setF, Bool.and_eq_true, decide_eq_true_eq, freeT]
    constructor
    · rintro ⟨⟨rfl, h1⟩, h2⟩
      exact .inr ⟨n, .one n (by simp [firstT]) ((hh p).2 ⟨h1, h2⟩), by simp [lastT]⟩
    · rintro (⟨_, h⟩ | ⟨s, h1, _⟩)
      · cases h
      · cases h1 with
        | one _ h2 h3 =>
          simp [firstT] at h2
          subst h2
          obtain ⟨h4, h5⟩ := (hh p).1 h3
          exact ⟨⟨rfl, h4⟩, h5⟩
        | next i s' _ h2 h3 h4 => exact h3.elim
  | empty =>
    intro n hok p q hp hq
    simp only [tabT, decide_eq_true_eq, freeT]
    constructor
    · rintro rfl; exact .inl ⟨rfl, trivial⟩
    · rintro (⟨h, _⟩ | ⟨s, h1, h2⟩)
      · exact h
      · simp [lastT] at h2
  | cat a b iha ihb =>
    intro n hok p q hp hq
    have la := iha n (hok.left (b := b) rfl)
    have lb := ihb (n + nset a) (hok.right (a := a) rfl)
    have upA : ∀ {p q s}, RE hs a n p q s → RE hs (.cat a b) n p q s := fun h => h.mono (fun _ h => by simp only [firstT, List.mem_append]; exact .inl h) (fun _ _ h => .inl h)
    have upB : ∀ {p q s}, freeT a = true → RE hs b (n + nset a) p q s → RE hs (.cat a b) n p q s := fun hf h => h.mono (fun _ h => by simp only [firstT, List.mem_append, hf, if_true]; exact .inr h) (fun _ _ h => .inr (.inl h))
    simp only [tabT, behK_iff, freeT, Bool.and_eq_true]
    constructor
    · rintro ⟨k, hk, hpk, hkq, h1, h2⟩
      rcases (la p k hp (by omega)).1 h1 with ⟨rfl, h3⟩ | ⟨s', h3, h4⟩
      · rcases (lb p q hp hq).1 h2 with ⟨rfl, h5⟩ | ⟨s, h5, h6⟩
        · exact .inl ⟨rfl, h3, h5⟩
        · exact .inr ⟨s, upB h3 h5, by simp only [lastT, List.mem_append]; exact .inr h6⟩
      · rcases (lb k q (by omega) hq).1 h2 with ⟨rfl, h5⟩ | ⟨s, h5, h6⟩
        · exact .inr ⟨s', upA h3, by simp only [lastT, List.mem_append, h5, if_true]; exact .inl h4⟩
        · exact .inr ⟨s, (upA h3).join (L := (· ∈ lastT a n)) h4 (fun _ _ h => .inr (.inl h)) (fun _ _ h1 h2 => .inr (.inr ⟨h1, h2⟩)) h5, by simp only [lastT, List.mem_append]; exact .inr h6⟩
    · rintro (⟨rfl, h1, h2⟩ | ⟨s, h1, h2⟩)
      · exact ⟨p, by omega, by omega, by omega, (la p p hp hp).2 (.inl ⟨rfl, h1⟩), (lb p p hp hp).2 (.inl ⟨rfl, h2⟩)⟩
      · have hpq := h1.lt
        simp only [lastT, List.mem_append] at h2
        rcases cat_chain h1 with h3 | ⟨hf, h3⟩ | ⟨k, s', h3, h4, h5⟩
        · have hr : s < n + nset a := h3.range.2
          rcases h2 with h2 | h2
          · split at h2
            · rename_i hb
              exact ⟨q, by omega, by omega, by omega, (la p q hp hq).2 (.inr ⟨s, h3, h2⟩), (lb q q hq hq).2 (.inl ⟨rfl, hb⟩)⟩
            · cases h2
          · have := (last_in b _).2 s h2; omega
        · have hr : n + nset a ≤ s := h3.range.1
          rcases h2 with h2 | h2
          · split at h2
            · have := (last_in a _).2 s h2; omega
            · cases h2
          · exact ⟨p, by omega, by omega, by omega, (la p p hp hp).2 (.inl ⟨rfl, hf⟩), (lb p q hp hq).2 (.inr ⟨s, h3, h2⟩)⟩
        · have hr : n + nset a ≤ s := h5.range.1
          have l1 := h3.lt
          have l2 := h5.lt
          rcases h2 with h2 | h2
          · split at h2
            · have := (last_in a _).2 s h2; omega
            · cases h2
          · exact ⟨k, by omega, by omega, by omega, (la p k hp (by omega)).2 (.inr ⟨s', h3, h4⟩), (lb k q (by omega) hq).2 (.inr ⟨s, h5, h2⟩)⟩
  | alt a b iha ihb =>
    intro n hok p q hp hq
    have la := iha n (hok.left (b := b) rfl)
    have lb := ihb (n + nset a) (hok.right (a := a) rfl)
    simp only [tabT, freeT, Bool.or_eq_true]
    rw [la p q hp hq, lb p q hp hq]
    constructor
    · rintro ((⟨rfl, h⟩ | ⟨s, h1, h2⟩) | (⟨rfl, h⟩ | ⟨s, h1, h2⟩))
      · exact .inl ⟨rfl, .inl h⟩
      · exact .inr ⟨s, h1.mono (fun _ h => by simp only [firstT, List.mem_append]; exact .inl h) (fun _ _ h => .inl h), by simp only [lastT, List.mem_append]; exact .inl h2⟩
      · exact .inl ⟨rfl, .inr h⟩
      · exact .inr ⟨s, h1.mono (fun _ h => by simp only [firstT, List.mem_append]; exact .inr h) (fun _ _ h => .inr h), by simp only [lastT, List.mem_append]; exact .inr h2⟩
    · rintro (⟨rfl, h | h⟩ | ⟨s, h1, h2⟩)
      · exact .inl (.inl ⟨rfl, h⟩)
      · exact .inr (.inl ⟨rfl, h⟩)
      · simp only [lastT, List.mem_append] at h2
        rcases alt_chain h1 with h3 | h3
        · have hr : s < n + nset a := h3.range.2
          rcases h2 with h2 | h2
          · exact .inl (.inr ⟨s, h3, h2⟩)
          · have := (last_in b _).2 s h2; omega
        · have hr : n + nset a ≤ s := h3.range.1
          rcases h2 with h2 | h2
          · have := (last_in a _).2 s h2; omega
          · exact .inr (.inr ⟨s, h3, h2⟩)
  | star a ih =>
    intro n hok p q hp hq
    simp only [tabT, freeT, Bool.or_eq_true, decide_eq_true_eq]
    rw [plus_leads (ih n hok) hp hq]
    constructor
    · rintro (h | ⟨h, _⟩ | ⟨s, h1, h2⟩)
      · exact .inl ⟨h, trivial⟩
      · exact .inl ⟨h, trivial⟩
      · exact .inr ⟨s, h1, h2⟩
    · rintro (⟨h, _⟩ | ⟨s, h1, h2⟩)
      · exact .inl h
      · exact .inr (.inr ⟨s, h1, h2⟩)
  | plus a ih =>
    intro n hok p q hp hq
    exact plus_leads (ih n hok) hp hq
  | opt a ih =>
    intro n hok p q hp hq
    simp only [tabT, freeT, Bool.or_eq_true, decide_eq_true_eq]
    rw [ih n hok p q hp hq]
    constructor
    · rintro (h | ⟨h, _⟩ | ⟨s, h1, h2⟩)
      · exact .inl ⟨h, trivial⟩
      · exact .inl ⟨h, trivial⟩
      · exact .inr ⟨s, h1, h2⟩
    · rintro (⟨h, _⟩ | ⟨s, h1, h2⟩)
      · exact .inl h
      · exact .inr (.inr ⟨s, h1, h2⟩)
end Go.Proofs.Ytficeeaaaijgcaa

/-
  The spots that a word leads to, as the law of chapter 10 finds them: plain facts; no program here.
-/
namespace Go.Proofs.Ytficeeaaaijgcaa
open Go Go.RowKit L
set_option linter.unusedVariables false

def hasI (sets : List Rx) (x : Int) (b : Nat) : Bool := hasS (sets.getD x.toNat ⟨0, 0, 0, 0, 0⟩) b
def filtL (sets : List Rx) (b : Nat) (nx : List Int) : List Int := nx.foldl (fun acc x => if hasI sets x b = true ∧ x ∉ acc then acc ++ [x] else acc) []
theorem filtL_succ (sets : List Rx) (b : Nat) (nx : List Int) (j : Nat) (hj : j < nx.length) : filtL sets b (nx.take (j + 1)) = if hasI sets nx[j] b = true ∧ nx[j] ∉ filtL sets b (nx.take j) then filtL sets b (nx.take j) ++ [nx[j]] else filtL sets b (nx.take j) := by
  unfold filtL; rw [List.take_succ_eq_append_getElem hj, List.foldl_append]; rfl
theorem filtL_spec (sets : List Rx) (b : Nat) (nx : List Int) : ∀ acc : List Int, acc.Nodup → let r := nx.foldl (fun acc x => if hasI sets x b = true ∧ x ∉ acc then acc ++ [x] else acc) acc
    r.Nodup ∧ ∀ x, x ∈ r ↔ x ∈ acc ∨ (x ∈ nx ∧ hasI sets x b = true) := by
  induction nx with
  | nil => intro acc h; exact ⟨h, by simp⟩
  | cons y nx ih =>
    intro acc h
    simp only [List.foldl_cons]
    split
    · rename_i hy
      obtain ⟨h1, h2⟩ := ih (acc ++ [y]) (by rw [List.nodup_append]; exact ⟨h, by simp, fun a ha b hb => by simp at hb; subst hb; exact fun e => hy.2 (e ▸ ha)⟩)
      refine ⟨h1, fun x => ?_⟩
      rw [h2 x]
      simp only [List.mem_append, List.mem_cons, List.not_mem_nil, or_false]
      constructor
      · rintro ((h | rfl) | ⟨h, h'⟩)
        · exact .inl h
        · exact .inr ⟨.inl rfl, hy.1⟩
        · exact .inr ⟨.inr h, h'⟩
      · rintro (h | ⟨rfl | h, h'⟩)
        · exact .inl (.inl h)
        · exact .inl (.inr rfl)
        · exact .inr ⟨h, h'⟩
    · rename_i hy
      obtain ⟨h1, h2⟩ := ih acc h
      refine ⟨h1, fun x => ?_⟩
      rw [h2 x]
      simp only [List.mem_cons]
      constructor
      · rintro (h | ⟨h, h'⟩)
        · exact .inl h
        · exact .inr ⟨.inr h, h'⟩
      · rintro (h | ⟨rfl | h, h'⟩)
        · exact .inl h
        · by_cases e : x ∈ acc
          · exact .inl e
          · exact absurd ⟨h', e⟩ hy
        · exact .inr ⟨h, h'⟩
theorem filtL_nodup (sets : List Rx) (b : Nat) (nx : List Int) : (filtL sets b nx).Nodup := (filtL_spec sets b nx [] (by simp)).1
theorem filtL_mem (sets : List Rx) (b : Nat) (nx : List Int) (x : Int) : x ∈ filtL sets b nx ↔ x ∈ nx ∧ hasI sets x b = true := by
  have := (filtL_spec sets b nx [] (by simp)).2 x
  simpa [filtL] using this

def nextN (e : E) (k : Nat) (now : List Int) : List Int := if k = 0 then firstT e 0 else now.flatMap (folR e)
def nowN (e : E) (w : ByteArray) : Nat → List Int
  | 0 => []
  | k + 1 => filtL (setsT e) (byteAt w k) (nextN e k (nowN e w k))

theorem folR_mem {e : E} {i x : Int} : x ∈ folR e i ↔ folT e 0 i x := by
  unfold folR
  constructor
  · intro h
    split at h
    · unfold folL at h
      exact (folB_iff e 0 i x).1 (List.mem_filter.1 h).2
    · cases h
  · intro h
    have hr := fol_in e 0 i x h
    rw [if_pos (by omega)]
    unfold folL
    refine List.mem_filter.2 ⟨List.mem_map.2 ⟨x.toNat, List.mem_range.2 (by omega), by omega⟩, (folB_iff e 0 i x).2 h⟩
theorem folR_len (e : E) (i : Int) : (folR e i).length ≤ nset e := by
  unfold folR
  split
  · exact folL_len e i _
  · simp
theorem nodup_len (N : Nat) (l : List Int) (h : l.Nodup) (hb : ∀ x ∈ l, 0 ≤ x ∧ x < (N : Int)) : l.length ≤ N := by
  have h1 : (l.map Int.toNat).Nodup := by
    rw [List.Nodup, List.pairwise_map]
    refine h.imp_of_mem fun ha hb' hne he => hne ?_
    have := hb _ ha
    have := hb _ hb'
    omega
  have h2 : (l.map Int.toNat).length ≤ (List.range N).length := h1.length_le_of_subset fun x hx => by
    obtain ⟨y, hy, rfl⟩ := List.mem_map.1 hx
    have := hb y hy
    exact List.mem_range.2 (by omega)
  simpa using h2
theorem nextN_range (e : E) (k : Nat) (now : List Int) : ∀ x ∈ nextN e k now, 0 ≤ x ∧ x < nset e := fun x hx => by
  unfold nextN at hx
  split at hx
  · have := (first_in e 0).2 x hx; omega
  · obtain ⟨i, _, hi⟩ := List.mem_flatMap.1 hx
    have := fol_in e 0 i x (folR_mem.1 hi); omega
theorem nowN_ok (e : E) (w : ByteArray) (k : Nat) : (nowN e w k).Nodup ∧ (∀ x ∈ nowN e w k, 0 ≤ x ∧ x < nset e) ∧ (nowN e w k).length ≤ nset e := by
  have h : (nowN e w k).Nodup ∧ (∀ x ∈ nowN e w k, 0 ≤ x ∧ x < nset e) := by
    cases k with
    | zero => exact ⟨by simp [nowN], by simp [nowN]⟩
    | succ k => exact ⟨filtL_nodup _ _ _, fun x hx => nextN_range e k _ x ((filtL_mem _ _ _ x).1 hx).1⟩
  exact ⟨h.1, h.2, nodup_len _ _ h.1 h.2⟩

def hsW (e : E) (w : ByteArray) : Int → Nat → Prop := fun x i => i < w.size ∧ hasI (setsT e) x (byteAt w i) = true
theorem hsW_ok (e : E) (w : ByteArray) : HsOk w (hsW e w) e 0 := fun j x i hx => by
  unfold hsW hasI
  have h1 : ((0 : Int) + j).toNat = j := by omega
  rw [h1, List.getD, hx]
  rfl
theorem nowN_mem (e : E) (w : ByteArray) : ∀ k, k ≤ w.size → ∀ x, x ∈ nowN e w k ↔ RE (hsW e w) e 0 0 k x := by
  intro k
  induction k with
  | zero =>
    intro _ x
    simp only [nowN, List.not_mem_nil, false_iff]
    intro h
    have := h.lt
    omega
  | succ k ih =>
    intro hk x
    rw [nowN, filtL_mem]
    unfold nextN
    constructor
    · rintro ⟨h1, h2⟩
      split at h1
      · rename_i e0; subst e0; exact .one x h1 ⟨by omega, h2⟩
      · obtain ⟨i, h3, h4⟩ := List.mem_flatMap.1 h1
        exact .next k i x ((ih (by omega) i).1 h3) (folR_mem.1 h4) ⟨by omega, h2⟩
    · intro h
      cases h with
      | one _ h1 h2 => exact ⟨by simpa using h1, h2.2⟩
      | next i s' _ h1 h2 h3 =>
        have := h1.lt
        rw [if_neg (by omega)]
        exact ⟨List.mem_flatMap.2 ⟨s', (ih (by omega) s').2 h1, folR_mem.2 h2⟩, h3.2⟩

theorem words_law (e : E) (w : ByteArray) : ((decide (w.size = 0) && freeT e) || (nowN e w w.size).any fun x => decide (x ∈ lastT e 0)) = saysT e w := by
  rw [Bool.eq_iff_iff]
  unfold saysT
  rw [leads_any w (hsW e w) e 0 (hsW_ok e w) 0 w.size (by omega) (by omega)]
  simp only [Bool.or_eq_true, Bool.and_eq_true, decide_eq_true_eq, List.any_eq_true]
  constructor
  · rintro (⟨h, h'⟩ | ⟨x, h1, h2⟩)
    · exact .inl ⟨h.symm, h'⟩
    · exact .inr ⟨x, (nowN_mem e w _ (by omega) x).1 h1, h2⟩
  · rintro (⟨h, h'⟩ | ⟨x, h1, h2⟩)
    · exact .inl ⟨h.symm, h'⟩
    · exact .inr ⟨x, (nowN_mem e w _ (by omega) x).2 h1, h2⟩
end Go.Proofs.Ytficeeaaaijgcaa
