import Derived.Test.YtficeeaaaijgcaaR7a
import Derived.Test.YtficeeaaaijgcaaTree
import Derived.LoopN
namespace Go.Proofs.Ytficeeaaaijgcaa
open Go.RowKit
set_option linter.unusedVariables false

/-- the kind's cell of step i -/
theorem RdX.kindAt {w : World} {a : Option Addr} {c n : Nat} {l : List Rx} (h : RdX w (.slice a n c) l) (j : Nat) (hj : j < l.length) :
    n = l.length ∧ ∃ b o, a = some ⟨b, o, none⟩ ∧ w.cell? ⟨b, o + j * 5, none⟩ = some (.int .i64 l[j].kind) := by
  obtain ⟨a', c', hv, hc⟩ := h
  cases hv
  obtain ⟨b, o, ha, h0, _⟩ := hc j hj
  exact ⟨rfl, b, o, ha, h0⟩

theorem RdX.below {w w' : World} {v : Value} {l : List Rx} (h : RdX w v l) (hb : Below w.heap.size w w') : RdX w' v l := by
  obtain ⟨a, c, rfl, hc⟩ := h
  refine ⟨a, c, rfl, fun j hj => ?_⟩
  obtain ⟨b, o, ha, h0, h1, h2, h3, h4⟩ := hc j hj
  have hlt := World.block_lt_of_cell? w _ h0
  have hk : ∀ p, w'.cell? ⟨b, p, none⟩ = w.cell? ⟨b, p, none⟩ := fun p => hb.cell (p := ⟨b, p, none⟩) hlt
  exact ⟨b, o, ha, by rw [hk]; exact h0, by rw [hk]; exact h1, by rw [hk]; exact h2, by rw [hk]; exact h3, by rw [hk]; exact h4⟩

theorem RdX.shape {w : World} {v : Value} {l : List Rx} (h : RdX w v l) : ∃ a c, v = .slice a l.length c := by
  obtain ⟨a, c, rfl, _⟩ := h
  exact ⟨a, c, rfl⟩

theorem kind_cases (e : E) : kindT e = 1 ∨ kindT e = 2 ∨ kindT e = 3 ∨ kindT e = 4 ∨ kindT e = 5 ∨ kindT e = 6 ∨ kindT e = 7 := by cases e <;> simp [kindT]

/-- Begin's walk, out of what the calls of itself return -/
def BegSpec (v : Value) (w : World) (i : Int) (s : Int) : Prop := Calls Try.prog 95 #[v, .int .i64 i] w fun e w' => e = .returned (.int .i64 s) ∧ w = w'

set_option maxHeartbeats 1000000 in
theorem begin_leaf (v : Value) (l : List Rx) (w : World) (hv : RdX w v l) (hl : l.length ≤ 1000) (j : Nat) (hj : j < l.length) (hk : ofK l[j].kind = 0) : BegSpec v w j j := by
  obtain ⟨a, c, rfl⟩ := hv.shape
  obtain ⟨_, b, o, rfl, hcell⟩ := hv.kindAt j hj
  have Hk := Lib.hid hk; clear hk
  unfold BegSpec
  go_enter Try.func95, Try.ntmps95
  go_wp2_with fail
  refine (ref7_Of_any _ _).mono ?_
  rintro e w1 ⟨rfl, rfl⟩
  rw [Hk.out]
  go_wp2_with fail
  refine wp_loop_rounds 1 ?_
  rw [rounds_succ]
  go_wp2_with fail
  go_ret
  exact ⟨rfl, rfl⟩

set_option maxHeartbeats 1000000 in
theorem begin_one (v : Value) (l : List Rx) (w : World) (hv : RdX w v l) (hl : l.length ≤ 1000) (j : Nat) (hj : j < l.length) (hk : ofK l[j].kind = 1) (s : Nat) (hs : s < l.length) (h1 : BegSpec v w (j - 1) s) : BegSpec v w j s := by
  obtain ⟨a, c, rfl⟩ := hv.shape
  obtain ⟨_, b, o, rfl, hcell⟩ := hv.kindAt j hj
  have Hk := Lib.hid hk; clear hk
  unfold BegSpec at h1 ⊢
  have H1 := Lib.hid h1; clear h1
  go_enter Try.func95, Try.ntmps95
  go_wp2_with fail
  refine (ref7_Of_any _ _).mono ?_
  rintro e w1 ⟨rfl, rfl⟩
  rw [Hk.out]
  go_wp2_with fail
  refine wp_loop_rounds 2 ?_
  rw [rounds_succ]
  go_wp2_with fail
  refine H1.out.mono ?_
  rintro e w1 ⟨rfl, rfl⟩
  go_wp2_with fail
  rw [rounds_succ]
  go_wp2_with fail
  go_ret
  exact ⟨rfl, rfl⟩

set_option maxHeartbeats 1000000 in
theorem begin_two (v : Value) (l : List Rx) (w : World) (hv : RdX w v l) (hl : l.length ≤ 1000) (j : Nat) (hj : j < l.length) (hk : ofK l[j].kind = 2) (m s : Nat) (hm : m < l.length) (hs : s < l.length) (h1 : BegSpec v w (j - 1) m) (h2 : BegSpec v w (m - 1) s) : BegSpec v w j s := by
  obtain ⟨a, c, rfl⟩ := hv.shape
  obtain ⟨_, b, o, rfl, hcell⟩ := hv.kindAt j hj
  have Hk := Lib.hid hk; clear hk
  unfold BegSpec at h1 h2 ⊢
  have H1 := Lib.hid h1; clear h1
  have H2 := Lib.hid h2; clear h2
  go_enter Try.func95, Try.ntmps95
  go_wp2_with fail
  refine (ref7_Of_any _ _).mono ?_
  rintro e w1 ⟨rfl, rfl⟩
  rw [Hk.out]
  go_wp2_with fail
  refine wp_loop_rounds 3 ?_
  rw [rounds_succ]
  go_wp2_with fail
  refine H1.out.mono ?_
  rintro e w1 ⟨rfl, rfl⟩
  go_wp2_with fail
  rw [rounds_succ]
  go_wp2_with fail
  refine H2.out.mono ?_
  rintro e w1 ⟨rfl, rfl⟩
  go_wp2_with fail
  rw [rounds_succ]
  go_wp2_with fail
  go_ret
  exact ⟨rfl, rfl⟩

theorem begin_any (l : List Rx) (hl : l.length ≤ 1000) (e : E) : ∀ (s t : Nat), AtT l s e t → ∀ (v : Value) (w : World), RdX w v l → ∀ i : Int, i = (t : Int) - 1 → BegSpec v w i s := by
  have hkind : ∀ (e : E) (s t : Nat), AtT l s e t → ∃ j, ∃ hj : j < l.length, j + 1 = t ∧ l[j].kind = kindT e := fun e s t h =>
    ⟨t - 1, by have := h.bound; omega, by have := h.bound; omega, h.kind _ _ (by have := h.bound; omega)⟩
  induction e with
  | set =>
    intro s t h v w hv i hi
    obtain ⟨j, hj, hjt, hk⟩ := hkind _ s t h
    obtain ⟨pre, suf, _, rfl, rfl⟩ := h
    obtain rfl : i = (j : Int) := by omega
    obtain rfl : pre.length = j := by simp [post] at hjt; omega
    exact begin_leaf v l w hv hl _ hj (by rw [hk]; rfl)
  | empty =>
    intro s t h v w hv i hi
    obtain ⟨j, hj, hjt, hk⟩ := hkind _ s t h
    obtain ⟨pre, suf, _, rfl, rfl⟩ := h
    obtain rfl : i = (j : Int) := by omega
    obtain rfl : pre.length = j := by simp [post] at hjt; omega
    exact begin_leaf v l w hv hl _ hj (by rw [hk]; rfl)
  | cat a b iha ihb =>
    intro s t h v w hv i hi
    obtain ⟨j, hj, hjt, hk⟩ := hkind _ s t h
    obtain ⟨m, ha, hb, hsm, hmt⟩ := h.cat
    obtain rfl : i = (j : Int) := by omega
    exact begin_two v l w hv hl j hj (by rw [hk]; rfl) m s (by omega) (by omega) (ihb m (t - 1) hb v w hv _ (by omega)) (iha s m ha v w hv _ (by omega))
  | alt a b iha ihb =>
    intro s t h v w hv i hi
    obtain ⟨j, hj, hjt, hk⟩ := hkind _ s t h
    obtain ⟨m, ha, hb, hsm, hmt⟩ := h.alt
    obtain rfl : i = (j : Int) := by omega
    exact begin_two v l w hv hl j hj (by rw [hk]; rfl) m s (by omega) (by omega) (ihb m (t - 1) hb v w hv _ (by omega)) (iha s m ha v w hv _ (by omega))
  | star a iha =>
    intro s t h v w hv i hi
    obtain ⟨j, hj, hjt, hk⟩ := hkind _ s t h
    have ha := h.star
    have hb := ha.bound
    obtain rfl : i = (j : Int) := by omega
    exact begin_one v l w hv hl j hj (by rw [hk]; rfl) s (by omega) (iha s (t - 1) ha v w hv _ (by omega))
  | plus a iha =>
    intro s t h v w hv i hi
    obtain ⟨j, hj, hjt, hk⟩ := hkind _ s t h
    have ha := h.plus
    have hb := ha.bound
    obtain rfl : i = (j : Int) := by omega
    exact begin_one v l w hv hl j hj (by rw [hk]; rfl) s (by omega) (iha s (t - 1) ha v w hv _ (by omega))
  | opt a iha =>
    intro s t h v w hv i hi
    obtain ⟨j, hj, hjt, hk⟩ := hkind _ s t h
    have ha := h.opt
    have hb := ha.bound
    obtain rfl : i = (j : Int) := by omega
    exact begin_one v l w hv hl j hj (by rw [hk]; rfl) s (by omega) (iha s (t - 1) ha v w hv _ (by omega))
end Go.Proofs.Ytficeeaaaijgcaa
