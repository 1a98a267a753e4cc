import Derived.Test.YtphkonkahmmfbaaMm2
import Derived.Test.YtphkonkahmmfbaaMmFn
namespace Go.Proofs.Ytphkonkahmmfbaa
open Go.RowKit

def lenOf : Value → Nat | .slice _ n _ => n | _ => 0

/-- what is left to merge, in whatever world of a round -/
structure MergeAt (Bo Bk : Nat) (k : Array Value) (tot : List Int) (f g h : Bool) (w0 : World) (v0 v1 : Value) (wr : World) (ra rb acc : List Int) (n : Nat) : Prop where
  pacc : ∃ v, AccAt wr Bo (Bk + 1) v acc
  pcell : wr.heap[Bk]? = some (.cells k 42 (0, 0))
  pblw : Below Bo w0 wr
  pra : RdLoI wr Bo v0 ra
  prb : RdLoI wr Bo v1 rb
  pca : CapOK v0
  pcb : CapOK v1
  peq : acc ++ mergeF f g h n ra rb = tot
  pfuel : ra.length + rb.length ≤ n
  psmall : acc.length + ra.length + rb.length ≤ 10000000

theorem BelowBut.next {Bo Bk : Nat} {k : Array Value} {tot : List Int} {f g h : Bool} {w0 wr w2 : World} {v0 v1 : Value} {ra rb acc : List Int} {n : Nat} {q : Nat}
    (hb : BelowBut (Bk + 1) Bo (wr.drewN q) w2) (hBk : Bo < Bk) (hacc : ∃ v, AccAt w2 Bo (Bk + 1) v acc) (hcell : wr.heap[Bk]? = some (.cells k 42 (0, 0))) (hblw : Below Bo w0 wr)
    (hra : RdLoI wr Bo v0 ra) (hrb : RdLoI wr Bo v1 rb) (hca : CapOK v0) (hcb : CapOK v1) (heq : acc ++ mergeF f g h n ra rb = tot) (hfuel : ra.length + rb.length ≤ n) (hs : acc.length + ra.length + rb.length ≤ 10000000) :
    MergeAt Bo Bk k tot f g h w0 v0 v1 w2 ra rb acc n := by
  have hb' : BelowBut (Bk + 1) Bo wr w2 := ⟨hb.os, hb.tape, hb.output, hb.size, hb.block⟩
  have hlo : Below Bo wr w2 := hb'.below (by omega) (Nat.le_refl _)
  exact ⟨hacc, by rw [hb'.block Bk (by omega) (by omega)]; exact hcell, hblw.trans hlo, hra.below hlo, hrb.below hlo, hca, hcb, heq, hfuel, hs⟩

theorem MergeAt.drewN {Bo Bk : Nat} {k : Array Value} {tot : List Int} {f g h : Bool} {w0 w2 : World} {v0 v1 : Value} {ra rb acc : List Int} {n : Nat}
    (m : MergeAt Bo Bk k tot f g h w0 v0 v1 w2 ra rb acc n) (q : Nat) : MergeAt Bo Bk k tot f g h w0 v0 v1 (w2.drewN q) ra rb acc n :=
  ⟨m.pacc, m.pcell, below_drewN m.pblw q, m.pra, m.prb, m.pca, m.pcb, m.peq, m.pfuel, m.psmall⟩

theorem RdLo_tail {w : World} {B b o c0 : Nat} {x : Int} {ra : List Int} (h : RdLoI w B (.slice (some ⟨b, o, none⟩) (ra.length + 1) c0) (x :: ra)) (hc : ra.length + 1 ≤ c0) :
    RdLoI w B (.slice (if c0 = 1 then some ⟨b, o, none⟩ else some ⟨b, o + 1, none⟩) ra.length (c0 - 1)) ra := by
  obtain ⟨a, c, hv, hcell⟩ := h
  cases hv
  refine ⟨_, _, rfl, fun j hj => ?_⟩
  have h1 : c0 ≠ 1 := by omega
  rw [if_neg h1]
  obtain ⟨b', o', ha, hb, hx⟩ := hcell (j + 1) (by simpa using hj)
  cases ha
  refine ⟨b, o + 1, rfl, hb, ?_⟩
  rw [show o + 1 + j = o + (j + 1) from by omega]
  exact hx
theorem cap_tail {a : Option Addr} {n c0 : Nat} (hc : n + 1 ≤ c0) : CapOK (.slice a n (c0 - 1)) := by simp only [CapOK]; omega

theorem heqStep {acc o m t T : List Int} (h : acc ++ m = T) (hm : m = o ++ t) : (acc ++ o) ++ t = T := by rw [List.append_assoc, ← hm]; exact h

/-- a slice that is not empty, spelt out -/
theorem RdLo_cons {w : World} {B : Nat} {v : Value} {x : Int} {ra : List Int} (h : RdLoI w B v (x :: ra)) (hc : CapOK v) :
    ∃ b o c, v = .slice (some ⟨b, o, none⟩) (ra.length + 1) c ∧ ra.length + 1 ≤ c ∧ w.cell? ⟨b, o, none⟩ = some (.int .i64 x) := by
  obtain ⟨a, c, rfl, hcell⟩ := h
  obtain ⟨b, o, rfl, _, hx⟩ := hcell 0 (by simp)
  exact ⟨b, o, c, rfl, by simpa [CapOK] using hc, by simpa using hx⟩

set_option maxHeartbeats 1000000 in
theorem merge_any (v u f1 f2 f3 : Value) (g1 g2 g3 : Bool) (la lb : List Int) (Bo : Nat) (w : World)
    (hv : RdLoI w Bo v la) (hu : RdLoI w Bo u lb) (hcv : CapOK v) (hcu : CapOK u) (hl : la.length + lb.length ≤ 4000000)
    (hB : Bo < w.heap.size) (ho : w.heap[Bo]? = some (.cells #[.slice none 0 0] 22 (0, 0)))
    (h1 : ∀ Br, ToSpec Bo Br f1 g1) (h2 : ∀ Br, ToSpec Bo Br f2 g2) (h3 : ∀ Br, ToSpec Bo Br f3 g3) :
    Calls Try.prog 29 #[v, u, .agg #[f1, f2, f3]] w fun e w' => e = .returned (.tuple #[]) ∧ (∃ v' Br, AccAt w' Bo Br v' (mergeL g1 g2 g3 la lb)) ∧ Below Bo w w' := by
  have hS : MergeAt Bo w.heap.size #[f1, f2, f3] (mergeL g1 g2 g3 la lb) g1 g2 g3 w v u (w.alloc (.cells #[f1, f2, f3] 42)) la lb [] (la.length + lb.length) := by
    have hb : Below Bo w (w.alloc (.cells #[f1, f2, f3] 42)) := (Below.refl _ _).alloc (by omega) _
    refine ⟨⟨.slice none 0 0, by omega, by simp, ?_, Ow_nil _ _⟩, heap_alloc_new w _, hb, hv.below hb, hu.below hb, hcv, hcu, rfl, Nat.le_refl _, by simp; omega⟩
    rw [Below.heap_alloc w _ Bo hB]; exact ho
  have H1 := Lib.hid h1; clear h1
  have H2 := Lib.hid h2; clear h2
  have H3 := Lib.hid h3; clear h3
  clear hv hu hcv hcu ho
  go_enter Try.func29, Try.ntmps29
  go_wp2_with fail
  go_loopw [0, 1] (fun v0 v1 wr => ∃ ra rb acc n, MergeAt Bo w.heap.size #[f1, f2, f3] (mergeL g1 g2 g3 la lb) g1 g2 g3 w v0 v1 wr ra rb acc n) (fun v0 v1 _ => lenOf v0 + lenOf v1)
  case atStart => exact ⟨_, _, _, _, hS⟩
  case round =>
    clear hS
    obtain ⟨ra, rb, acc, n, hm⟩ := hrel
    obtain ⟨⟨va, hacc⟩, hcell, hblw, hra, hrb, hca, hcb, heq, hfuel, hsmall⟩ := hm
    have hk0 : wr.cell? ⟨w.heap.size, 0, none⟩ = some f1 := by simp [World.cell?, hcell]
    have hk1 : wr.cell? ⟨w.heap.size, 1, none⟩ = some f2 := by simp [World.cell?, hcell]
    have hk2 : wr.cell? ⟨w.heap.size, 2, none⟩ = some f3 := by simp [World.cell?, hcell]
    cases ra with
    | nil =>
      cases rb with
      | nil =>
        obtain ⟨a0, c0, rfl, _⟩ := hra
        obtain ⟨a1, c1, rfl, _⟩ := hrb
        rw [mergeF_none, List.append_nil] at heq
        have Heq := Lib.hid heq; clear heq
        go_wp2
        go_end0
        exact ⟨rfl, ⟨_, _, by rw [← Heq.out]; exact hacc⟩, hblw⟩
      | cons y rb =>
        obtain ⟨b, o, c1, rfl, hcap, hy⟩ := RdLo_cons hrb hcb
        have hra' := hra
        obtain ⟨a0, c0, rfl, _⟩ := hra'
        have hz : ((rb.length : Int) + 1 == 0) = false := beq_eq_false_iff_ne.2 (by omega)
        have Heq := Lib.hid heq; clear heq
        go_wp2
        go_quiet (fail)
        go_wp2
        go_quiet (fail)
        go_wp2
        refine region_tail 6 (by kernel_rfl) (by kernel_rfl) ?_
        simp only [List.take_succ_cons, List.take_zero, List.drop_succ_cons, List.drop_zero]
        repeat still_step
        refine wpStill_nil ?_
        go_wp2_with fail
        refine (H3.out (w.heap.size + 1) va acc y _ (show AccAt (wr.drewN _) _ _ _ _ from hacc) (by simp only [List.length_cons] at hsmall; omega)).mono ?_
        rintro e w2 ⟨rfl, hacc2, hb2⟩
        have Hac := Lib.hid hacc2; clear hacc2
        go_wp2_with fail
        cases n with
        | zero => simp at hfuel
        | succ n =>
          refine ⟨⟨_, _, _, n, hb2.next hB Hac.out hcell hblw hra (RdLo_tail hrb hcap) hca (cap_tail hcap) (by rw [List.append_assoc]; exact Heq.out) (by simp only [List.length_cons, List.length_nil] at hfuel ⊢; omega) (by have := opt_len g3 y; simp [opt] at hsmall this ⊢; omega)⟩, by simp [lenOf]⟩
    | cons x ra =>
      obtain ⟨b, o, c0, rfl, hcap, hx⟩ := RdLo_cons hra hca
      cases rb with
      | nil =>
        have hrb' := hrb
        obtain ⟨a1, c1, rfl, _⟩ := hrb'
        have Heq := Lib.hid heq; clear heq
        go_wp2
        go_quiet (fail)
        go_wp2
        refine region_tail 6 (by kernel_rfl) (by kernel_rfl) ?_
        simp only [List.take_succ_cons, List.take_zero, List.drop_succ_cons, List.drop_zero]
        repeat still_step
        refine wpStill_nil ?_
        go_wp2_with fail
        refine (H1.out (w.heap.size + 1) va acc x _ (show AccAt (wr.drewN _) _ _ _ _ from hacc) (by simp only [List.length_cons] at hsmall; omega)).mono ?_
        rintro e w2 ⟨rfl, hacc2, hb2⟩
        have Hac := Lib.hid hacc2; clear hacc2
        go_wp2_with fail
        cases n with
        | zero => simp at hfuel
        | succ n =>
          refine ⟨⟨_, _, _, n, hb2.next hB Hac.out hcell hblw (RdLo_tail hra hcap) hrb (cap_tail hcap) hcb (by rw [List.append_assoc]; exact Heq.out) (by simp only [List.length_cons, List.length_nil] at hfuel ⊢; omega) (by have := opt_len g1 x; simp [opt] at hsmall this ⊢; omega)⟩, by simp [lenOf]⟩
      | cons y rb =>
        obtain ⟨b2, o2, c1, rfl, hcap2, hy⟩ := RdLo_cons hrb hcb
        have hz : ((rb.length : Int) + 1 == 0) = false := beq_eq_false_iff_ne.2 (by omega)
        have hz2 : ((ra.length : Int) + 1 == 0) = false := beq_eq_false_iff_ne.2 (by omega)
        rcases Int.lt_trichotomy x y with hxy | hxy | hxy
        · have Heq : Hid (acc ++ mergeF g1 g2 g3 n (x :: ra) (y :: rb) = mergeL g1 g2 g3 la lb) := Lib.hid heq
          clear heq
          cases n with
          | zero => simp at hfuel
          | succ n =>
          have Hm : Hid (mergeF g1 g2 g3 (n + 1) (x :: ra) (y :: rb) = opt g1 x ++ mergeF g1 g2 g3 n ra (y :: rb)) := Lib.hid (by rw [mergeF, if_pos hxy])
          go_wp2
          go_quiet (fail)
          go_wp2
          refine region_tail 6 (by kernel_rfl) (by kernel_rfl) ?_
          simp only [List.take_succ_cons, List.take_zero, List.drop_succ_cons, List.drop_zero]
          repeat still_step
          refine wpStill_nil ?_
          go_wp2_with fail
          refine (H1.out (w.heap.size + 1) va acc x _ (show AccAt (wr.drewN _) _ _ _ _ from hacc) (by simp only [List.length_cons] at hsmall; omega)).mono ?_
          rintro e w2 ⟨rfl, hacc2, hb2⟩
          have Hac := Lib.hid hacc2; clear hacc2
          go_wp2_with fail
          refine ⟨⟨_, _, _, n, hb2.next hB Hac.out hcell hblw (RdLo_tail hra hcap) hrb (cap_tail hcap) hcb (heqStep Heq.out Hm.out) (by simp only [List.length_cons] at hfuel ⊢; omega) (by have := opt_len g1 x; simp [opt] at hsmall this ⊢; omega)⟩, by simp [lenOf]⟩
        · subst hxy
          have Heq : Hid (acc ++ mergeF g1 g2 g3 n (x :: ra) (x :: rb) = mergeL g1 g2 g3 la lb) := Lib.hid heq
          clear heq
          cases n with
          | zero => simp at hfuel
          | succ n =>
          have Hm : Hid (mergeF g1 g2 g3 (n + 1) (x :: ra) (x :: rb) = opt g2 x ++ mergeF g1 g2 g3 n ra rb) := Lib.hid (by rw [mergeF, if_neg (by omega), if_neg (by omega)])
          go_wp2
          go_quiet (fail)
          go_wp2
          go_quiet (fail)
          go_wp2
          refine region_tail 6 (by kernel_rfl) (by kernel_rfl) ?_
          simp only [List.take_succ_cons, List.take_zero, List.drop_succ_cons, List.drop_zero]
          repeat still_step
          refine wpStill_nil ?_
          go_wp2_with fail
          refine (H2.out (w.heap.size + 1) va acc x _ (show AccAt (wr.drewN _) _ _ _ _ from hacc) (by simp only [List.length_cons] at hsmall; omega)).mono ?_
          rintro e w2 ⟨rfl, hacc2, hb2⟩
          have Hac := Lib.hid hacc2; clear hacc2
          go_wp2_with fail
          go_quiet (fail)
          go_wp2_with fail
          refine ⟨⟨_, _, _, n, (hb2.next hB Hac.out hcell hblw (RdLo_tail hra hcap) (RdLo_tail hrb hcap2) (cap_tail hcap) (cap_tail hcap2) (heqStep Heq.out Hm.out) (by simp only [List.length_cons] at hfuel ⊢; omega) (by have := opt_len g2 x; simp [opt] at hsmall this ⊢; omega)).drewN _⟩, by simp [lenOf]; omega⟩
        · have Heq : Hid (acc ++ mergeF g1 g2 g3 n (x :: ra) (y :: rb) = mergeL g1 g2 g3 la lb) := Lib.hid heq
          clear heq
          cases n with
          | zero => simp at hfuel
          | succ n =>
          have Hm : Hid (mergeF g1 g2 g3 (n + 1) (x :: ra) (y :: rb) = opt g3 y ++ mergeF g1 g2 g3 n (x :: ra) rb) := Lib.hid (by rw [mergeF, if_neg (by omega), if_pos hxy])
          have hxy' : ¬ x < y := by omega
          go_wp2
          go_quiet (fail)
          go_wp2
          go_quiet (fail)
          go_wp2
          refine region_tail 6 (by kernel_rfl) (by kernel_rfl) ?_
          simp only [List.take_succ_cons, List.take_zero, List.drop_succ_cons, List.drop_zero]
          repeat still_step
          refine wpStill_nil ?_
          go_wp2_with fail
          refine (H3.out (w.heap.size + 1) va acc y _ (show AccAt (wr.drewN _) _ _ _ _ from hacc) (by simp only [List.length_cons] at hsmall; omega)).mono ?_
          rintro e w2 ⟨rfl, hacc2, hb2⟩
          have Hac := Lib.hid hacc2; clear hacc2
          go_wp2_with fail
          refine ⟨⟨_, _, _, n, hb2.next hB Hac.out hcell hblw hra (RdLo_tail hrb hcap2) hca (cap_tail hcap2) (heqStep Heq.out Hm.out) (by simp only [List.length_cons] at hfuel ⊢; omega) (by have := opt_len g3 y; simp [opt] at hsmall this ⊢; omega)⟩, by simp [lenOf]⟩
end Go.Proofs.Ytphkonkahmmfbaa
