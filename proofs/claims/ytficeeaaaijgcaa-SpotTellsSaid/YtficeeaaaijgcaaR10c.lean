import Derived.Test.YtficeeaaaijgcaaR10b
namespace Go.Proofs.Ytficeeaaaijgcaa
open Go.RowKit
set_option linter.unusedVariables false

theorem firstT_len (e : E) : ∀ n, (firstT e n).length ≤ nset e := by
  induction e with
  | set => intro n; simp [firstT, nset]
  | empty => intro n; simp [firstT]
  | cat a b iha ihb => intro n; have := iha n; have := ihb (n + nset a); simp only [firstT, nset, List.length_append]; split <;> simp <;> omega
  | alt a b iha ihb => intro n; have := iha n; have := ihb (n + nset a); simp only [firstT, nset, List.length_append]; omega
  | star a ih => exact ih
  | plus a ih => exact ih
  | opt a ih => exact ih
theorem lastT_len (e : E) : ∀ n, (lastT e n).length ≤ nset e := by
  induction e with
  | set => intro n; simp [lastT, nset]
  | empty => intro n; simp [lastT]
  | cat a b iha ihb => intro n; have := iha n; have := ihb (n + nset a); simp only [lastT, nset, List.length_append]; split <;> simp <;> omega
  | alt a b iha ihb => intro n; have := iha n; have := ihb (n + nset a); simp only [lastT, nset, List.length_append]; omega
  | star a ih => exact ih
  | plus a ih => exact ih
  | opt a ih => exact ih
def endsT (e : E) (n : Int) (last : Bool) : List Int := if last then lastT e n else firstT e n
theorem endsT_len (e : E) (n : Int) (last : Bool) : (endsT e n last).length ≤ nset e := by
  unfold endsT; split
  · exact lastT_len e n
  · exact firstT_len e n
theorem AtT.nset_le {l : List Rx} {s t : Nat} {e : E} (h : AtT l s e t) : nset e ≤ l.length := by
  have h1 := Go.Proofs.Ytficeeaaaijgcaa.nset_le e
  have := h.bound
  obtain ⟨pre, suf, rfl, rfl, rfl⟩ := h
  simp; omega

theorem ends_any (l : List Rx) (hl : l.length ≤ 1000) (e : E) : ∀ (s t : Nat), AtT l s e t → ∀ (v : Value) (last : Bool) (i : Int), i = (t : Int) - 1 → ∀ (w : World), RdX w v l → EndsSpec v w i last (endsT e (numL l s) last) := by
  induction e with
  | set =>
    intro s t h v last i hi w hv
    obtain ⟨j, hj, hjt, hk⟩ := h.root
    obtain rfl : i = (j : Int) := by omega
    have : s = j := by obtain ⟨pre, suf, _, rfl, rfl⟩ := h; simp [post] at hjt; omega
    subst this
    have := ends_set v l w hv hl s hj hk last
    cases last <;> exact this
  | empty =>
    intro s t h v last i hi w hv
    obtain ⟨j, hj, hjt, hk⟩ := h.root
    obtain rfl : i = (j : Int) := by omega
    have := ends_empty v l w hv hl j hj hk last
    cases last <;> exact this
  | star a iha =>
    intro s t h v last i hi w hv
    obtain ⟨j, hj, hjt, hk⟩ := h.root
    obtain rfl : i = (j : Int) := by omega
    exact ends_one v l w hv hl j hj _ hk (by simp [kindT]) last _ (iha s (t - 1) h.star v last _ (by have := h.star.bound; omega) w hv)
  | plus a iha =>
    intro s t h v last i hi w hv
    obtain ⟨j, hj, hjt, hk⟩ := h.root
    obtain rfl : i = (j : Int) := by omega
    exact ends_one v l w hv hl j hj _ hk (by simp [kindT]) last _ (iha s (t - 1) h.plus v last _ (by have := h.plus.bound; omega) w hv)
  | opt a iha =>
    intro s t h v last i hi w hv
    obtain ⟨j, hj, hjt, hk⟩ := h.root
    obtain rfl : i = (j : Int) := by omega
    exact ends_one v l w hv hl j hj _ hk (by simp [kindT]) last _ (iha s (t - 1) h.opt v last _ (by have := h.opt.bound; omega) w hv)
  | cat a b iha ihb =>
    intro s t h v last i hi w hv
    obtain ⟨j, hj, hjt, hk⟩ := h.root
    obtain ⟨m, ha, hb, hsm, hmt⟩ := h.cat
    obtain rfl : i = (j : Int) := by omega
    have hn := ha.num
    have hla := endsT_len a (numL l s) last
    have hlb := endsT_len b (numL l m) last
    have hna := ha.nset_le
    have hnb := hb.nset_le
    have := ends_two v l w hv hl j hj _ hk (by simp [kindT]) last m (by omega) (freeT b) (freeT a) _ _ (by omega)
      (fun w hv => ihb m (t - 1) hb v last _ (by omega) w hv) (fun w hv => begin_any l hl b m (t - 1) hb v w hv _ (by omega)) (fun w hv => iha s m ha v last _ (by omega) w hv)
      (fun w hv => free_any l hl b m (t - 1) hb v w hv _ (by omega)) (fun w hv => free_any l hl a s m ha v w hv _ (by omega))
    have e : endsTwo (kindT (E.cat a b)) last (freeT b) (freeT a) (endsT a (numL l s) last) (endsT b (numL l m) last) = endsT (E.cat a b) (numL l s) last := by
      rw [hn]
      unfold endsTwo endsT
      cases last <;> cases hfa : freeT a <;> cases hfb : freeT b <;> simp [kindT, firstT, lastT, hfa, hfb]
    rw [e] at this
    exact this
  | alt a b iha ihb =>
    intro s t h v last i hi w hv
    obtain ⟨j, hj, hjt, hk⟩ := h.root
    obtain ⟨m, ha, hb, hsm, hmt⟩ := h.alt
    obtain rfl : i = (j : Int) := by omega
    have hn := ha.num
    have hla := endsT_len a (numL l s) last
    have hlb := endsT_len b (numL l m) last
    have hna := ha.nset_le
    have hnb := hb.nset_le
    have := ends_two v l w hv hl j hj _ hk (by simp [kindT]) last m (by omega) (freeT b) (freeT a) _ _ (by omega)
      (fun w hv => ihb m (t - 1) hb v last _ (by omega) w hv) (fun w hv => begin_any l hl b m (t - 1) hb v w hv _ (by omega)) (fun w hv => iha s m ha v last _ (by omega) w hv)
      (fun w hv => free_any l hl b m (t - 1) hb v w hv _ (by omega)) (fun w hv => free_any l hl a s m ha v w hv _ (by omega))
    have e : endsTwo (kindT (E.alt a b)) last (freeT b) (freeT a) (endsT a (numL l s) last) (endsT b (numL l m) last) = endsT (E.alt a b) (numL l s) last := by
      rw [hn]
      unfold endsTwo endsT
      cases last <;> simp [kindT, firstT, lastT]
    rw [e] at this
    exact this

/-- what is known of an expression's steps -/
def WfX (l : List Rx) (e : E) : Prop := l.length ≤ 512 ∧ l = post e
theorem WfX.at {l : List Rx} {e : E} (h : WfX l e) : AtT l 0 e l.length := by obtain ⟨_, rfl⟩ := h; exact AtT.whole e
theorem numL_zero (l : List Rx) : numL l 0 = 0 := by simp [numL]
theorem WfX.check {l : List Rx} {e : E} (h : WfX l e) : checkL l = 0 := by obtain ⟨h1, rfl⟩ := h; exact check_tree e h1
theorem wfx_of (l : List Rx) (h : checkL l = 0) : ∃ e, WfX l e := by obtain ⟨h1, e, he⟩ := tree_of l h; exact ⟨e, h1, he⟩

set_option maxHeartbeats 400000 in
theorem ref10_First_any (v : Value) (l : List Rx) (e : E) (w : World) (hv : RdX w v l) (he : WfX l e) :
    Calls Try.prog 17 #[v] w fun e' w' => ∃ v', e' = .returned v' ∧ OwI w' w.heap.size v' (firstT e 0) ∧ Below w.heap.size w w' := by
  obtain ⟨a, c, rfl⟩ := hv.shape
  have hc := Lib.hid he.check
  have hE := ends_any l (by have := he.1; omega) e 0 l.length he.at _ false ((l.length : Int) - 1) rfl w hv
  rw [numL_zero] at hE
  unfold EndsSpec endsT at hE
  have HE := Lib.hid hE; clear hE
  have hlen := he.1
  go_enter Try.func17, Try.ntmps17
  go_wp2_with fail
  refine (ref7_Check_any _ l _ hv).mono ?_
  rintro e1 w1 ⟨he1, rfl⟩
  rw [hc.out] at he1
  subst he1
  go_wp2_with fail
  refine HE.out.mono ?_
  rintro e1 w1 ⟨v1, rfl, hown, hb⟩
  go_wp2_with fail
  go_ret
  exact ⟨_, rfl, hown, hb⟩

set_option maxHeartbeats 400000 in
theorem ref10_Last_any (v : Value) (l : List Rx) (e : E) (w : World) (hv : RdX w v l) (he : WfX l e) :
    Calls Try.prog 19 #[v] w fun e' w' => ∃ v', e' = .returned v' ∧ OwI w' w.heap.size v' (lastT e 0) ∧ Below w.heap.size w w' := by
  obtain ⟨a, c, rfl⟩ := hv.shape
  have hc := Lib.hid he.check
  have hE := ends_any l (by have := he.1; omega) e 0 l.length he.at _ true ((l.length : Int) - 1) rfl w hv
  rw [numL_zero] at hE
  unfold EndsSpec endsT at hE
  have HE := Lib.hid hE; clear hE
  have hlen := he.1
  go_enter Try.func19, Try.ntmps19
  go_wp2_with fail
  refine (ref7_Check_any _ l _ hv).mono ?_
  rintro e1 w1 ⟨he1, rfl⟩
  rw [hc.out] at he1
  subst he1
  go_wp2_with fail
  refine HE.out.mono ?_
  rintro e1 w1 ⟨v1, rfl, hown, hb⟩
  go_wp2_with fail
  go_ret
  exact ⟨_, rfl, hown, hb⟩

set_option maxHeartbeats 400000 in
theorem ref10_Free_any (v : Value) (l : List Rx) (e : E) (w : World) (hv : RdX w v l) (he : WfX l e) :
    Calls Try.prog 23 #[v] w fun e' w' => e' = .returned (.bool (freeT e)) ∧ w = w' := by
  obtain ⟨a, c, rfl⟩ := hv.shape
  have hc := Lib.hid he.check
  have hE := free_any l (by have := he.1; omega) e 0 l.length he.at _ w hv ((l.length : Int) - 1) rfl
  unfold FreeSpec at hE
  have HE := Lib.hid hE; clear hE
  have hlen := he.1
  go_enter Try.func23, Try.ntmps23
  go_wp2_with fail
  refine (ref7_Check_any _ l _ hv).mono ?_
  rintro e1 w1 ⟨he1, rfl⟩
  rw [hc.out] at he1
  subst he1
  go_wp2_with fail
  refine HE.out.mono ?_
  rintro e1 w1 ⟨rfl, rfl⟩
  go_wp2_with fail
  go_ret
  exact ⟨rfl, rfl⟩
end Go.Proofs.Ytficeeaaaijgcaa
