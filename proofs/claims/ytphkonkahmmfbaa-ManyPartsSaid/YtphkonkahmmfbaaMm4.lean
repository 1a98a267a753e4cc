import Derived.Test.YtphkonkahmmfbaaMm3
namespace Go.Proofs.Ytphkonkahmmfbaa
open Go.RowKit

set_option maxHeartbeats 400000 in
theorem many_Union_any (v u : Value) (l m : List Int) (w : World) (hv : RdI w v l) (hu : RdI w u m) (hcv : CapOK v) (hcu : CapOK u) (hl : l.length + m.length ≤ 4000000) :
    Calls Try.prog 16 #[v, u] w fun e w' => ∃ v', e = .returned v' ∧ OwI w' w.heap.size v' (mergeL true true true l m) ∧ Below w.heap.size w w' := by
  have hb : Below w.heap.size w (w.alloc (.cells #[.slice none 0 0] 22)) := (Below.refl _ _).alloc (Nat.le_refl _) _
  have hlv := hv.lo.below hb
  have hlu := hu.lo.below hb
  have Hb := Lib.hid hb; clear hb
  have hmf : ∀ (fn : Fn) (first cap : Array Value) (w : World), (Instr.makeFunc fn first cap).run Try.prog w = .ok (.func fn first cap) w := fun _ _ _ _ => rfl
  have hsz : w.heap.size < (w.alloc (.cells #[.slice none 0 0] 22)).heap.size := by simp
  have hnew := heap_alloc_new w (.cells #[.slice none 0 0] 22)
  go_enter Try.func16, Try.ntmps16
  go_wp2_with fail
  refine (merge_any v u _ _ _ true true true l m w.heap.size _ hlv hlu hcv hcu hl hsz hnew (fun Br => to_put1 _ Br) (fun Br => to_put1 _ Br) (fun Br => to_put1 _ Br)).mono ?_
  rintro e w2 ⟨rfl, ⟨v2, Br, h1, h2, h3, h4⟩, hb2⟩
  have hcell := cell_of_one h3
  clear hnew hsz
  obtain ⟨a2, c2, rfl⟩ := h4.shape
  go_wp2_with fail
  go_ret
  exact ⟨_, rfl, h4.mono (by omega), Hb.out.trans hb2⟩

set_option maxHeartbeats 400000 in
theorem many_Common_any (v u : Value) (l m : List Int) (w : World) (hv : RdI w v l) (hu : RdI w u m) (hcv : CapOK v) (hcu : CapOK u) (hl : l.length + m.length ≤ 4000000) :
    Calls Try.prog 18 #[v, u] w fun e w' => ∃ v', e = .returned v' ∧ OwI w' w.heap.size v' (mergeL false true false l m) ∧ Below w.heap.size w w' := by
  have hb : Below w.heap.size w (w.alloc (.cells #[.slice none 0 0] 22)) := (Below.refl _ _).alloc (Nat.le_refl _) _
  have hlv := hv.lo.below hb
  have hlu := hu.lo.below hb
  have Hb := Lib.hid hb; clear hb
  have hmf : ∀ (fn : Fn) (first cap : Array Value) (w : World), (Instr.makeFunc fn first cap).run Try.prog w = .ok (.func fn first cap) w := fun _ _ _ _ => rfl
  have hsz : w.heap.size < (w.alloc (.cells #[.slice none 0 0] 22)).heap.size := by simp
  have hnew := heap_alloc_new w (.cells #[.slice none 0 0] 22)
  go_enter Try.func18, Try.ntmps18
  go_wp2_with fail
  refine (merge_any v u _ _ _ false true false l m w.heap.size _ hlv hlu hcv hcu hl hsz hnew (fun Br => to_nil _ Br) (fun Br => to_put2 _ Br) (fun Br => to_nil _ Br)).mono ?_
  rintro e w2 ⟨rfl, ⟨v2, Br, h1, h2, h3, h4⟩, hb2⟩
  have hcell := cell_of_one h3
  clear hnew hsz
  obtain ⟨a2, c2, rfl⟩ := h4.shape
  go_wp2_with fail
  go_ret
  exact ⟨_, rfl, h4.mono (by omega), Hb.out.trans hb2⟩

set_option maxHeartbeats 400000 in
theorem many_Less_any (v u : Value) (l m : List Int) (w : World) (hv : RdI w v l) (hu : RdI w u m) (hcv : CapOK v) (hcu : CapOK u) (hl : l.length + m.length ≤ 4000000) :
    Calls Try.prog 20 #[v, u] w fun e w' => ∃ v', e = .returned v' ∧ OwI w' w.heap.size v' (mergeL true false false l m) ∧ Below w.heap.size w w' := by
  have hb : Below w.heap.size w (w.alloc (.cells #[.slice none 0 0] 22)) := (Below.refl _ _).alloc (Nat.le_refl _) _
  have hlv := hv.lo.below hb
  have hlu := hu.lo.below hb
  have Hb := Lib.hid hb; clear hb
  have hmf : ∀ (fn : Fn) (first cap : Array Value) (w : World), (Instr.makeFunc fn first cap).run Try.prog w = .ok (.func fn first cap) w := fun _ _ _ _ => rfl
  have hsz : w.heap.size < (w.alloc (.cells #[.slice none 0 0] 22)).heap.size := by simp
  have hnew := heap_alloc_new w (.cells #[.slice none 0 0] 22)
  go_enter Try.func20, Try.ntmps20
  go_wp2_with fail
  refine (merge_any v u _ _ _ true false false l m w.heap.size _ hlv hlu hcv hcu hl hsz hnew (fun Br => to_put3 _ Br) (fun Br => to_nil _ Br) (fun Br => to_nil _ Br)).mono ?_
  rintro e w2 ⟨rfl, ⟨v2, Br, h1, h2, h3, h4⟩, hb2⟩
  have hcell := cell_of_one h3
  clear hnew hsz
  obtain ⟨a2, c2, rfl⟩ := h4.shape
  go_wp2_with fail
  go_ret
  exact ⟨_, rfl, h4.mono (by omega), Hb.out.trans hb2⟩

end Go.Proofs.Ytphkonkahmmfbaa
