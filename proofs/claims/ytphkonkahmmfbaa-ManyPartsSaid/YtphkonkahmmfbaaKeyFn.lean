/-
  The text that many.Key makes of a list, as plain functions; no program here.
-/
import Derived.WalkKit
namespace Go.Proofs.Ytphkonkahmmfbaa
open Go
def u64 (n : Int) : Int := IntKind.u64.wrap n
def key8 (n : Int) : List Int :=
  [u64 n / 72057594037927936 % 256, u64 n / 281474976710656 % 256, u64 n / 1099511627776 % 256, u64 n / 4294967296 % 256, u64 n / 16777216 % 256, u64 n / 65536 % 256, u64 n / 256 % 256, u64 n % 256]
def shAt : Nat → Int
  | 0 => 56 | 1 => 48 | 2 => 40 | 3 => 32 | 4 => 24 | 5 => 16 | 6 => 8 | 7 => 0 | _ => -8
def keyL (l : List Int) : List Int := l.flatMap key8
def keyS (l : List Int) : ByteArray := (keyL l).foldl (fun r n => r.push (UInt8.ofNat n.toNat)) ByteArray.empty

theorem u64_nat (n : Int) : 0 ≤ u64 n ∧ u64 n < 18446744073709551616 := by
  unfold u64 IntKind.wrap
  simp [IntKind.signed, IntKind.bits]
  omega
theorem u64_inj (a b : Int) (ha : -9223372036854775808 ≤ a ∧ a ≤ 9223372036854775807) (hb : -9223372036854775808 ≤ b ∧ b ≤ 9223372036854775807) (h : u64 a = u64 b) : a = b := by
  unfold u64 IntKind.wrap at h
  simp [IntKind.signed, IntKind.bits] at h
  omega
theorem key8_inj (a b : Int) (h : key8 a = key8 b) : u64 a = u64 b := by
  have ha := u64_nat a
  have hb := u64_nat b
  unfold key8 at h
  generalize u64 a = x at *
  generalize u64 b = y at *
  simp only [List.cons.injEq, and_true] at h
  omega
theorem key8_len (n : Int) : (key8 n).length = 8 := rfl
theorem keyL_inj (l m : List Int) (h : keyL l = keyL m) : l.map u64 = m.map u64 := by
  induction l generalizing m with
  | nil => cases m with
    | nil => rfl
    | cons b r => simp [keyL, key8] at h
  | cons a l ih => cases m with
    | nil => simp [keyL, key8] at h
    | cons b m =>
      have h' : key8 a ++ keyL l = key8 b ++ keyL m := h
      have := List.append_inj h' (by rw [key8_len, key8_len])
      simp only [List.map_cons]
      rw [key8_inj a b this.1, ih m this.2]
theorem key8_byte (n x : Int) (h : x ∈ key8 n) : 0 ≤ x ∧ x < 256 := by
  unfold key8 at h
  generalize u64 n = y at *
  simp only [List.mem_cons, List.not_mem_nil, or_false] at h
  omega
theorem keyL_byte (l : List Int) (x : Int) (h : x ∈ keyL l) : 0 ≤ x ∧ x < 256 := by
  obtain ⟨a, _, ha⟩ := List.mem_flatMap.1 h
  exact key8_byte a x ha
theorem push_list (ns : List Int) (s : ByteArray) : (ns.foldl (fun r n => r.push (UInt8.ofNat n.toNat)) s).data.toList = s.data.toList ++ ns.map fun n => UInt8.ofNat n.toNat := by
  induction ns generalizing s with
  | nil => simp
  | cons a r ih => rw [List.foldl_cons, ih]; simp [ByteArray.push]
theorem bytes_inj (a b : List Int) (ha : ∀ x ∈ a, 0 ≤ x ∧ x < 256) (hb : ∀ x ∈ b, 0 ≤ x ∧ x < 256) (h : a.map (fun n => UInt8.ofNat n.toNat) = b.map fun n => UInt8.ofNat n.toNat) : a = b := by
  induction a generalizing b with
  | nil => cases b with
    | nil => rfl
    | cons y b => simp at h
  | cons x a ih => cases b with
    | nil => simp at h
    | cons y b =>
      simp only [List.map_cons, List.cons.injEq] at h
      have hx := ha x (by simp)
      have hy := hb y (by simp)
      have e := congrArg UInt8.toNat h.1
      simp only [UInt8.toNat_ofNat'] at e
      have : x = y := by omega
      rw [this, ih b (fun z hz => ha z (by simp [hz])) (fun z hz => hb z (by simp [hz])) h.2]
theorem map_u64_inj (l m : List Int) (hl : ∀ x ∈ l, -9223372036854775808 ≤ x ∧ x ≤ 9223372036854775807) (hm : ∀ x ∈ m, -9223372036854775808 ≤ x ∧ x ≤ 9223372036854775807) (h : l.map u64 = m.map u64) : l = m := by
  induction l generalizing m with
  | nil => cases m with
    | nil => rfl
    | cons y b => simp at h
  | cons x a ih => cases m with
    | nil => simp at h
    | cons y b =>
      simp only [List.map_cons, List.cons.injEq] at h
      rw [u64_inj x y (hl x (by simp)) (hm y (by simp)) h.1, ih b (fun z hz => hl z (by simp [hz])) (fun z hz => hm z (by simp [hz])) h.2]
theorem keyS_inj (l m : List Int) (hl : ∀ x ∈ l, -9223372036854775808 ≤ x ∧ x ≤ 9223372036854775807) (hm : ∀ x ∈ m, -9223372036854775808 ≤ x ∧ x ≤ 9223372036854775807) : keyS l = keyS m ↔ l = m := by
  refine ⟨fun h => ?_, fun h => by rw [h]⟩
  have h1 : (keyS l).data.toList = (keyS m).data.toList := by rw [h]
  unfold keyS at h1
  rw [push_list, push_list] at h1
  simp only [List.append_cancel_left_eq] at h1
  exact map_u64_inj l m hl hm (keyL_inj l m (bytes_inj _ _ (keyL_byte l) (keyL_byte m) h1))
theorem keyL_len (l : List Int) : (keyL l).length = 8 * l.length := by
  induction l with
  | nil => rfl
  | cons a l ih => have : keyL (a :: l) = key8 a ++ keyL l := rfl
                   rw [this, List.length_append, ih, key8_len, List.length_cons]; omega
theorem keyL_snoc (l : List Int) (k : Nat) (h : k < l.length) : keyL (l.take k) ++ (key8 l[k]).take 8 = keyL (l.take (k + 1)) := by
  have e : (key8 l[k]).take 8 = key8 l[k] := rfl
  rw [e, List.take_succ_eq_append_getElem h]
  unfold keyL
  rw [List.flatMap_append]
  simp
end Go.Proofs.Ytphkonkahmmfbaa
