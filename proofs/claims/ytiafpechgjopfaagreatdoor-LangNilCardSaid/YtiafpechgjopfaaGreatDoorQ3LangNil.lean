
import Derived.Test.YtiafpechgjopfaaGreatDoorQ2LangNil

namespace Go.Proofs.YtiafpechgjopfaaGreatDoor.T
noncomputable section
set_option maxRecDepth 100000
set_option maxHeartbeats 8000000
set_option linter.unusedVariables false
set_option linter.unusedSimpArgs false
set_option linter.defProp false
open List (replicate range)
open Go Go.RowKit L
def SR.mem (s : TS) (id : Nat) (x : GB) (rd : List Nat) : SR := ⟨Unit, true, some (), fun _ => s, fun _ => [(id, x)], rd, [id], []⟩
def SR.memO (α : Type) (op : Option α) (s : TS) (id : Nat) (x : α → GB) (rd : List Nat) : SR := ⟨α, false, op, fun _ => s, fun y => [(id, x y)], rd, [id], []⟩
section
variable {P : Program} {o : Oper} {E : EF} {G : EG} {rd : List Nat} {F : PFrame} {H : PHeap} {W : Env} {n : Nat}
theorem SOk.mem {s : TS} {id : Nat} {x : GB} (h : ∀ W n F H, Jc n o → Agr o E G (id :: rd) F H → PE P W n o F H (fun p H' => p = s.den ∧ H' = H.set (.o id) (qr id x))) : SOk P o E G (.mem s id x rd) :=
  ⟨fun _ => rfl, fun y hy W n F H hfl hd hF hH => h W n F H hd ⟨hF, fun i hi => by
    rcases wck.1 hi with rfl | hi
    · exact hH i (.inr (by simp [SR.mem]))
    · exact hH i (.inl hi)⟩⟩
theorem SOk.memO {α : Type} {op : Option α} {s : TS} {id : Nat} {x : α → GB} (h : ∀ y, op = some y → ∀ W n F H, Jc n o → Agr o E G (id :: rd) F H → PE P W n o F H (fun p H' => p = s.den ∧ H' = H.set (.o id) (qr id (x y)))) : SOk P o E G (.memO α op s id x rd) :=
  ⟨fun _ => rfl, fun y hy W n F H hfl hd hF hH => h y hy W n F H hd ⟨hF, fun i hi => by
    rcases wck.1 hi with rfl | hi
    · exact hH i (.inr (by simp [SR.memO]))
    · exact hH i (.inl hi)⟩⟩
def nv (G : EG) (id : Nat) : Nat := (G id).ver + 1
theorem zij {id : Nat} (hag : Agr o E G (id :: rd) F H) : (H (.o id)).ver + 1 = nv G id := by rw [hag.h id (by simp)]; rfl
def vz (o : Oper) : Bool := match o.dst with
  | some _ => true
  | none => false
theorem qz {o : Oper} (h : vz o = true) : ∃ d, o.dst = some d := by
  unfold vz at h
  split at h
  · exact ⟨_, by assumption⟩
  · cases h
def zu8 (zt : ZT) (t : TypeId) (o : Oper) (G : EG) (id : Nat) : Option SR := match vz o with
  | true => match zt t with
    | some xs => some (.mem (.pt id 0 (nv G id)) id ⟨nv G id, some (.box t xs)⟩ [])
    | none => none
  | false => none
theorem zxq {zt : ZT} (hzt : zai P zt) {t : TypeId} {id : Nat} {q : SR} (ho : o.op = .alloc t) (h : zu8 zt t o G id = some q) : SOk P o E G q := by
  unfold zu8 at h
  split at h <;> try (cases h; done)
  rename_i hd
  obtain ⟨d, hd⟩ := qz hd
  split at h <;> cases h
  rename_i xs hxs
  obtain ⟨us, hu1, hu2, hu3⟩ := hzt t xs hxs
  refine SOk.mem fun W n F H hdo hag => ?_
  refine wah (p0 := .pp (.o id) 0 (nv G id)) (.box hu3) (by simp only [TS.den]; exact Ref.refl _) hdo (PE.alloc (id := .o id) ho hd (hdo d hd) hu1 hu2 ?_)
  rw [zij hag]; exact ⟨rfl, rfl⟩
def sBox (t : TypeId) (o : Oper) (G : EG) (id : Nat) (x : TS) : Option SR := match vz o && okT G x with
  | true => some (.mem (.pt id 0 (nv G id)) id ⟨nv G id, some (.box t [x])⟩ (zc9 x))
  | false => none
theorem z2h {t : TypeId} {x : Operand} {id : Nat} {q : SR} (ho : o.op = .box t x) (h : sBox t o G id (evE E x) = some q) : SOk P o E G q := by
  have hx' : x ∈ o.op.operands := by rw [ho]; simp [Op.operands]
  unfold sBox at h
  split at h <;> cases h
  rename_i hc
  simp only [wb6] at hc
  obtain ⟨d, hd⟩ := qz hc.1
  refine SOk.mem fun W n F H hdo hag => ?_
  have hev := hag.ev hx'
  refine PE.box (id := .o id) ho hd (hdo d hd) (by rw [hev]; exact Ys hc.2 fun i hi => hag.h i (by simp [hi])) ?_
  rw [zij hag, hev]
  refine ⟨by simp only [TS.den], ?_⟩
  simp only [qr, wcd, BD.den, jo, wcl]
def zx {α : Type} (l : List α) (i : Int) (y : α) : Option (List α) := match decide (0 ≤ i) with
  | true => match decide (i.toNat < l.length) with
    | true => some (l.set i.toNat y)
    | false => none
  | false => none
def z4n : List TS → Nat → TS → Option (List TS)
  | [], _, _ => none
  | x :: xs, off, s => match Nat.blt off (Jo x) with
    | true => some (s :: xs)
    | false => match z4n xs (off - Jo x) s with
      | some ys => some (x :: ys)
      | none => none
def zu0 {n : Nat} {α : Type} (a : Arr n α) (i : Int) (y : α) : Option (Arr n α) := match decide (0 ≤ i) with
  | true => match decide (i.toNat < n) with
    | true => some ⟨a.l.set i.toNat y, by rw [wd0, a.h]⟩
    | false => none
  | false => none
def putE {β : Type} (t : Ty) (off k : Nat) (y : TS) (e : t.D) (f : t.D → Option β) : Option β := match znk off k y [.v ⟨t, e⟩] with
  | some ys => match toT t (.agg ys) with
    | some v => f v
    | none => none
  | none => none
def sSto (ag : Bool) (k : Nat) (G : EG) (x y : TS) : Option SR := match okT G y with
  | false => none
  | true => match x with
    | .pt id off ver => match Nat.beq (G id).ver ver with
      | true => match (G id).b with
        | some (.box tid xs) => match znk off k y xs with
          | some ys => some (.mem UND id ⟨ver, some (.box tid ys)⟩ (zc9 y))
          | none => none
        | some (.rowx tid w xs) => match znk off k y xs with
          | some ys => match Nat.beq ys.length xs.length with
            | true => some (.mem UND id ⟨ver, some (.rowx tid w ys)⟩ (zc9 y))
            | false => none
          | none => none
        | _ => none
      | false => none
    | .elt id w i off ver => match Nat.beq (G id).ver ver with
      | true => match (G id).b with
        | some (.row tid t l) => match Nat.beq w (wid t) && (Nat.beq off 0 && Nat.beq k w) with
          | true => match toT t y with
            | some v => some (.memO (List t.D) (zx l i v) UND id (fun l' => ⟨ver, some (.row tid t l')⟩) (zc9 y))
            | none => none
          | false => match Nat.beq w (wid t) with
            | true => some (.memO (List t.D) (ja (atL l i) fun e => putE t off k y e fun v => zx l i v) UND id (fun l' => ⟨ver, some (.row tid t l')⟩) (zc9 y))
            | false => none
        | some (.box tid xs) => match zej xs off with
          | some (.v ⟨.arr n t, a⟩, off') => match Nat.beq w (wid t) && (Nat.beq off' 0 && Nat.beq k w) with
            | true => match toT t y with
              | some v => some (.memO (Arr n t.D) (zu0 a i v) UND id (fun a' => ⟨ver, (z4n xs off (.v ⟨.arr n t, a'⟩)).map fun ys => .box tid ys⟩) (zc9 y))
              | none => none
            | false => none
          | _ => none
        | _ => none
      | false => none
    | _ => none
theorem und_den : UND.den = .u undef := by simp only [UND, TS.den]; rfl
theorem zcx {pre mid post ps : List PV} {j : Nat} (h : j + ps.length ≤ mid.length) : setMany (pre ++ mid ++ post) (pre.length + j) ps = pre ++ setMany mid j ps ++ post := by
  unfold setMany
  rw [wcq pre mid post, List.take_length_add_append, show pre.length + j + ps.length = pre.length + (j + ps.length) by omega, List.drop_length_add_append, List.take_append_of_le_length (by omega), List.drop_append_of_le_length h]
  simp only [wcq]
theorem zlg {t : Ty} {l : List t.D} {i : Nat} {y : t.D} (h : i < l.length) : setMany (l.flatMap (je t)) (i * wid t) (je t y) = (l.set i y).flatMap (je t) := by
  have hl : l = l.take i ++ l[i] :: l.drop (i + 1) := by simp
  have e1 : l.flatMap (je t) = (l.take i).flatMap (je t) ++ je t l[i] ++ (l.drop (i + 1)).flatMap (je t) := by
    conv => lhs; rw [hl]
    simp only [wdc, wci, wcq]
  have e2 : (l.set i y).flatMap (je t) = (l.take i).flatMap (je t) ++ je t y ++ (l.drop (i + 1)).flatMap (je t) := by
    rw [List.set_eq_take_append_cons_drop, if_pos h]
    simp only [wdc, wci, wcq]
  have e3 : ((l.take i).flatMap (je t)).length = i * wid t := by
    rw [ye _ (wid t) _ fun x _ => jn t x, wdf]
    congr 1; omega
  rw [e1, e2, ← e3]
  have := zcx (pre := (l.take i).flatMap (je t)) (mid := je t l[i]) (post := (l.drop (i + 1)).flatMap (je t)) (ps := je t y) (j := 0) (by rw [jn, jn]; omega)
  simp only [wdb] at this
  rw [this]
  congr 2
  unfold setMany
  simp only [List.take_zero, wc2, wcx]
  rw [List.drop_eq_nil_of_le (by rw [jn, jn]; exact wb7 _), wcl]
theorem RefL.setMany2 {ps qs : List PV} (h : RefL ps qs) (cs : List PV) (off : Nat) : RefL (L.setMany cs off ps) (L.setMany cs off qs) := by
  unfold L.setMany
  rw [h.1]
  exact RefL.append (RefL.append (RefL.refl _) h) (RefL.refl _)
theorem z0y {t : Ty} {l : List t.D} {i off : Nat} {e v : t.D} {ps : List PV} (he : l[i]? = some e) (h1 : off + ps.length ≤ wid t) (h2 : RefL (setMany (je t e) off ps) (je t v)) : RefL (setMany (l.flatMap (je t)) (i * wid t + off) ps) ((l.set i v).flatMap (je t)) := by
  obtain ⟨h, rfl⟩ := wb3.1 he
  have hl : l = l.take i ++ l[i] :: l.drop (i + 1) := by simp
  have e1 : l.flatMap (je t) = (l.take i).flatMap (je t) ++ je t l[i] ++ (l.drop (i + 1)).flatMap (je t) := by
    conv => lhs; rw [hl]
    simp only [wdc, wci, wcq]
  have e2 : (l.set i v).flatMap (je t) = (l.take i).flatMap (je t) ++ je t v ++ (l.drop (i + 1)).flatMap (je t) := by
    rw [List.set_eq_take_append_cons_drop, if_pos h]
    simp only [wdc, wci, wcq]
  have e3 : ((l.take i).flatMap (je t)).length = i * wid t := by
    rw [ye _ (wid t) _ fun x _ => jn t x, wdf]
    congr 1; omega
  rw [e1, e2, ← e3, zcx (by rw [jn]; exact h1)]
  exact RefL.append (RefL.append (RefL.refl _) h2) (RefL.refl _)
theorem Vn {α : Type} {l l' : List α} {i : Int} {y : α} (h : zx l i y = some l') : i.toNat < l.length ∧ l' = l.set i.toNat y := by
  unfold zx at h
  split at h <;> try (cases h; done)
  split at h <;> cases h
  rename_i h1
  exact ⟨wc8 h1, rfl⟩
theorem zxn {n : Nat} {α : Type} {a a' : Arr n α} {i : Int} {y : α} (h : zu0 a i y = some a') : i.toNat < n ∧ a'.l = a.l.set i.toNat y := by
  unfold zu0 at h
  split at h <;> try (cases h; done)
  split at h <;> cases h
  rename_i h1
  exact ⟨wc8 h1, rfl⟩
theorem zvt : ∀ {xs : List TS} {off : Nat} {p s : TS}, zej xs off = some (p, 0) → Jo s = Jo p → ∃ ys pre post, z4n xs off s = some ys ∧ jo xs = pre ++ p.den.cells ++ post ∧ jo ys = pre ++ s.den.cells ++ post ∧ pre.length = off
  | [], off, p, s, h, _ => by simp [zej] at h
  | x :: xs, off, p, s, h, hw => by
    simp only [zej] at h
    simp only [z4n]
    split at h
    · rename_i hb
      cases h
      exact ⟨s :: xs, [], jo xs, by first | (rw [hb]; done) | rfl, by simp only [jo, wc2], by simp only [jo, wc2], rfl⟩
    · rename_i hb
      obtain ⟨ys, pre, post, h1, h2, h3, h4⟩ := zvt (s := s) h hw
      have : ¬ off < Jo x := by
        intro hlt
        have : Nat.blt off (Jo x) = true := by simpa [web] using hlt
        rw [hb] at this; cases this
      refine ⟨x :: ys, x.den.cells ++ pre, post, by first | (rw [hb, h1]; done) | (rw [h1]; done) | simp [h1], by simp only [jo, h2, wcq], by simp only [jo, h3, wcq], ?_⟩
      rw [wch, zbu]; omega
theorem z20 {t k : Nat} {ag : Bool} {x y : Operand} {q : SR} (ho : o.op = .store t x y) (ht : asz P t = some (ag, k)) (h : sSto ag k G (evE E x) (evE E y) = some q) : SOk P o E G q := by
  have hx' : x ∈ o.op.operands := by rw [ho]; simp [Op.operands]
  have hy' : y ∈ o.op.operands := by rw [ho]; simp [Op.operands]
  unfold sSto at h
  split at h
  · cases h
  rename_i hok
  have ru : ∀ {W n F H} {id ver : Nat} {bd : PBody} {x : GB}, (qr id x) = ⟨ver, some bd⟩ → PE P W n o F H (fun p H' => p = .u undef ∧ H' = H.set (.o id) ⟨ver, some bd⟩) → PE P W n o F H (fun p H' => p = UND.den ∧ H' = H.set (.o id) (qr id x)) := fun {W n F H id ver bd x} e hpe => by
    rw [e, und_den]; exact hpe
  split at h
  · rename_i id off ver hx
    split at h <;> try (cases h; done)
    rename_i hv
    have hv := wb2 hv
    split at h <;> try (cases h; done)
    · rename_i tid xs hb
      split at h <;> cases h
      rename_i ys hys
      obtain ⟨e1, e2, e3⟩ := Zw hys
      refine SOk.mem fun W n F H hdo hag => ru (bd := .box tid (jo ys)) rfl ?_
      have hH := hag.h id (by simp)
      have hyv := hag.ev hy'
      refine PE.store (id := .o id) (off := off) (ver := ver) (cs := jo xs) (bd := .box tid (jo xs)) ho hdo (by rw [hag.ev hx', hx]; simp only [TS.den]) (yv hH hb hv) ht (by rw [hyv]; exact Ys hok fun i hi => hag.h i (by simp [hi])) (by rw [hyv]; exact e3) e2 (by rw [hH]; simp [qr, hb, BD.den]) ⟨rfl, ?_⟩
      rw [hyv, e1]; rfl
    · rename_i tid w xs hb
      split at h <;> try (cases h; done)
      rename_i ys hys
      split at h <;> cases h
      rename_i hlen
      have hlen := wb2 hlen
      obtain ⟨e1, e2, e3⟩ := Zw hys
      refine SOk.mem fun W n F H hdo hag => ru (bd := .row tid w ys.length (jo ys)) rfl ?_
      have hH := hag.h id (by simp)
      have hyv := hag.ev hy'
      refine PE.store (id := .o id) (off := off) (ver := ver) (cs := jo xs) (bd := .row tid w xs.length (jo xs)) ho hdo (by rw [hag.ev hx', hx]; simp only [TS.den]) (yl hH hb rfl hv) ht (by rw [hyv]; exact Ys hok fun i hi => hag.h i (by simp [hi])) (by rw [hyv]; exact e3) e2 (by rw [hH]; simp [qr, hb, BD.den]) ⟨rfl, ?_⟩
      rw [hyv, e1, hlen]; rfl
  · rename_i id w i off ver hx
    split at h <;> try (cases h; done)
    rename_i hv
    have hv := wb2 hv
    split at h <;> try (cases h; done)
    · rename_i tid ty l hb
      split at h
      · rename_i hc
        simp only [wb6] at hc
        have ew := wb2 hc.1
        have eo := wb2 hc.2.1
        have ek := wb2 hc.2.2
        split at h <;> cases h
        rename_i v hv2
        subst eo
        refine SOk.memO fun l' hl' W n F H hdo hag => ?_
        obtain ⟨hi, rfl⟩ := Vn hl'
        have hH := hag.h id (by simp)
        have hyv := hag.ev hy'
        have hT := (Qr _ _ _ hv2).1
        have hlenl : (l.flatMap (je ty)).length = l.length * wid ty := ye _ _ _ fun x _ => jn ty x
        have hyl : (evE E y).den.cells.length = k := by rw [hT.1, jn, ek, ew]
        refine wah (bd := .row tid (wid ty) l.length (setMany (l.flatMap (je ty)) (i.toNat * wid ty) (evE E y).den.cells)) (bd' := .row tid (wid ty) (l.set i.toNat v).length ((l.set i.toNat v).flatMap (je ty))) (by rw [← zlg hi, wd0]; exact .row (hT.setMany2 _ _)) (by rw [und_den]; exact Ref.refl _) hdo ?_
        refine PE.store (id := .o id) (off := i.toNat * w + 0) (ver := ver) (cs := l.flatMap (je ty)) (bd := .row tid (wid ty) l.length (l.flatMap (je ty))) ho hdo (by rw [hag.ev hx', hx]; simp only [TS.den]) (yl hH hb rfl hv) ht (by rw [hyv]; exact Ys hok fun i hi => hag.h i (by simp [hi])) (by rw [hyv]; exact hyl) ?_ (by rw [hH]; simp [qr, hb, BD.den]) ⟨rfl, ?_⟩
        · rw [hlenl, ek, ew, wdb]
          have : (i.toNat + 1) * wid ty ≤ l.length * wid ty := wdd _ hi
          rwa [wek] at this
        · rw [hyv, wdb, ew]; rfl
      · split at h <;> cases h
        rename_i hw
        have ew := wb2 hw
        subst ew
        refine SOk.memO fun l' hl' W n F H hdo hag => ?_
        obtain ⟨e, he, hl'⟩ := qg hl'
        unfold putE at hl'
        split at hl' <;> try (cases hl'; done)
        rename_i ys hys
        split at hl' <;> try (cases hl'; done)
        rename_i v hv2
        obtain ⟨hi, rfl⟩ := Vn hl'
        have hH := hag.h id (by simp)
        have hyv := hag.ev hy'
        obtain ⟨e1, e2, e3⟩ := Zw hys
        have hT := (Qr _ _ _ hv2).1
        have hden : jo [TS.v ⟨ty, e⟩] = je ty e := by simp only [jo, TS.den, qc, wcl]
        rw [hden] at e1 e2
        rw [jn] at e2
        have he2 : l[i.toNat]? = some e := (z6 he).2
        have hlenl : (l.flatMap (je ty)).length = l.length * wid ty := ye _ _ _ fun x _ => jn ty x
        have hR : RefL (setMany (je ty e) off (evE E y).den.cells) (je ty v) := by
          rw [← e1]
          simpa only [TS.den, PV.cells] using hT
        refine wah (bd := .row tid (wid ty) l.length (setMany (l.flatMap (je ty)) (i.toNat * wid ty + off) (evE E y).den.cells)) (bd' := .row tid (wid ty) (l.set i.toNat v).length ((l.set i.toNat v).flatMap (je ty))) (by rw [wd0]; exact .row (z0y he2 (by rw [e3]; exact e2) hR)) (by rw [und_den]; exact Ref.refl _) hdo ?_
        refine PE.store (id := .o id) (off := i.toNat * wid ty + off) (ver := ver) (cs := l.flatMap (je ty)) (bd := .row tid (wid ty) l.length (l.flatMap (je ty))) ho hdo (by rw [hag.ev hx', hx]; simp only [TS.den]) (yl hH hb rfl hv) ht (by rw [hyv]; exact Ys hok fun i hi => hag.h i (by simp [hi])) (by rw [hyv]; exact e3) ?_ (by rw [hH]; simp [qr, hb, BD.den]) ⟨rfl, ?_⟩
        · rw [hlenl]
          have : (i.toNat + 1) * wid ty ≤ l.length * wid ty := wdd _ hi
          rw [wek] at this
          omega
        · rw [hyv]; rfl
    · rename_i tid xs hb
      split at h <;> try (cases h; done)
      rename_i m ty a off' har
      split at h <;> try (cases h; done)
      rename_i hc
      simp only [wb6] at hc
      have ew := wb2 hc.1
      have eo := wb2 hc.2.1
      have ek := wb2 hc.2.2
      split at h <;> cases h
      rename_i v hv2
      subst eo
      refine SOk.memO fun a' ha' W n F H hdo hag => ?_
      obtain ⟨hi, hal⟩ := zxn ha'
      obtain ⟨ys, pre, post, p1, p2, p3, p4⟩ := zvt (s := .v ⟨.arr m ty, a'⟩) har (by simp only [Jo])
      have hH := hag.h id (by simp)
      have hyv := hag.ev hy'
      have hT := (Qr _ _ _ hv2).1
      have hyl : (evE E y).den.cells.length = k := by rw [hT.1, jn, ek, ew]
      simp only [TS.den, qc, je] at p2 p3
      have hlenl : (a.l.flatMap (je ty)).length = m * wid ty := by rw [ye _ (wid ty) _ fun x _ => jn ty x, a.h]
      have hile : (i.toNat * wid ty) + wid ty ≤ m * wid ty := by
        have : (i.toNat + 1) * wid ty ≤ m * wid ty := wdd _ hi
        rwa [wek] at this
      have e5 : setMany (jo xs) (off + i.toNat * wid ty) (evE E y).den.cells = pre ++ setMany (a.l.flatMap (je ty)) (i.toNat * wid ty) (evE E y).den.cells ++ post := by
        rw [p2, ← p4, zcx]
        rw [hlenl, hyl, ek, ew]; exact hile
      rw [p1]
      refine wah (bd := .box tid (setMany (jo xs) (off + i.toNat * wid ty) (evE E y).den.cells)) (bd' := .box tid (jo ys)) (.box ?_) (by rw [und_den]; exact Ref.refl _) hdo ?_
      · rw [e5, p3, hal, ← zlg (by rw [a.h]; exact hi)]
        exact RefL.append (RefL.append (RefL.refl _) (hT.setMany2 _ _)) (RefL.refl _)
      refine PE.store (id := .o id) (off := i.toNat * w + off) (ver := ver) (cs := jo xs) (bd := .box tid (jo xs)) ho hdo (by rw [hag.ev hx', hx]; simp only [TS.den]) (yv hH hb hv) ht (by rw [hyv]; exact Ys hok fun i hi => hag.h i (by simp [hi])) (by rw [hyv]; exact hyl) ?_ (by rw [hH]; simp [qr, hb, BD.den]) ⟨rfl, ?_⟩
      · rw [p2]; simp only [wch, hlenl, ek, ew]; omega
      · rw [hyv, ew, Nat.add_comm]; rfl
  · cases h
end
def apO {α : Type} (b : Nat) (l m : List α) : Option (List α) := match decide (l.length + m.length ≤ maxLen) && decide ((l.length + m.length) * b ≤ 140737488355328) with
  | true => some (l ++ m)
  | false => none
theorem Vb {α : Type} {b : Nat} {l m r : List α} (h : apO b l m = some r) : l.length + m.length ≤ maxLen ∧ (l.length + m.length) * b ≤ 140737488355328 ∧ r = l ++ m := by
  unfold apO at h
  split at h <;> cases h
  rename_i h1
  simp only [wb6, wc9] at h1
  exact ⟨h1.1, h1.2, rfl⟩
def mkO (b : Nat) (z : Int) : Option Nat := match decide (0 ≤ z) && (decide (z.toNat ≤ maxLen) && decide (b * z.toNat ≤ 281474976710656)) with
  | true => some z.toNat
  | false => none
theorem ztx {b : Nat} {z : Int} {m : Nat} (h : mkO b z = some m) : z = (m : Int) ∧ m ≤ maxLen ∧ b * m ≤ 281474976710656 := by
  unfold mkO at h
  split at h <;> cases h
  rename_i h1
  simp only [wb6, wc9] at h1
  exact ⟨by omega, h1.2.1, h1.2.2⟩
def zsq (ty : Ty) (G : EG) : TS → Option (List ty.D × List Nat)
  | .v d => match d.as (.sl ty) with
    | some l => some (l, [])
    | none => none
  | .own id ver => match Nat.beq (G id).ver ver with
    | true => match (G id).b with
      | some (.row _ t l) => match Dyn.as ⟨.sl t, l⟩ (.sl ty) with
        | some l => some (l, [id])
        | none => none
      | _ => none
    | false => none
  | .c (.slice none 0 0) => some ([], [])
  | _ => none
abbrev SE := Option (TypeId × Nat × Nat × Value)
def tyRow (G : EG) : TS → Option Ty
  | .v ⟨.sl t, _⟩ => some t
  | .own id _ => match (G id).b with
    | some (.row _ t _) => some t
    | _ => none
  | _ => none
def sApp (se : SE) (o : Oper) (G : EG) (nid : Nat) (s x : TS) : Option SR := match vz o with
  | false => none
  | true => match se with
    | none => none
    | some (e, k, b, _) => match s with
      | .own id ver => match Nat.beq (G id).ver ver with
        | true => match (G id).b with
          | some (.row tid ty l) => match Nat.beq tid e && (Nat.beq (wid ty) k && Ya ty) with
            | true => match zsq ty G x with
              | some r => some (.memO (List ty.D) (apO b l r.1) (.own id (ver + 1)) id (fun l' => ⟨ver + 1, some (.row tid ty l')⟩) r.2)
              | none => none
            | false => none
          | _ => none
        | false => none
      | .c (.slice none 0 0) => match tyRow G x with
        | some ty => match Nat.beq (wid ty) k && Ya ty with
          | true => match zsq ty G x with
            | some r => some (.memO (List ty.D) (apO b [] r.1) (.own nid (nv G nid)) nid (fun l' => ⟨nv G nid, some (.row e ty l')⟩) r.2)
            | none => none
          | false => none
        | none => none
      | _ => none
section
variable {P : Program} {o : Oper} {E : EF} {G : EG} {rd : List Nat} {F : PFrame} {H : PHeap} {W : Env} {n : Nat}
theorem zds {ty : Ty} {k : Nat} {s : TS} {r : List ty.D × List Nat} (h : zsq ty G s = some r) (hk : wid ty = k) (hH : ∀ id ∈ r.2, H (.o id) = qr id (G id)) : zmj H k s.den = some (r.1.length, r.1.flatMap (je ty)) := by
  unfold zsq at h
  split at h
  · split at h <;> cases h
    rename_i d l hl
    have := wac hl
    subst this
    simp only [TS.den]
    rw [zby]
    unfold zmj
    simp only
    rw [if_pos hk, wcs, Jl]
  · rename_i id ver
    split at h <;> try (cases h; done)
    rename_i hv
    have hv := wb2 hv
    split at h <;> try (cases h; done)
    rename_i tid t l hb
    split at h <;> cases h
    rename_i l' hl
    have := wac hl
    injection this with e1 e2
    injection e1 with e1
    subst e1
    have e2 := eq_of_heq e2
    subst e2
    simp only [TS.den]
    unfold zmj
    simp only
    rw [yb (hH id (by simp)) hb rfl hv]
    simp only
    rw [if_pos hk]
  · cases h
    simp only [TS.den]
    rfl
  · cases h
theorem Y4 {ty : Ty} (hn : Ya ty = true) (l : List ty.D) : ∀ p ∈ l.flatMap (je ty), yj H p = true := fun p hp => by
  obtain ⟨x, _, hx⟩ := wcu.1 hp
  exact Y6 ty x H hn p hx
theorem z3h {t : Nat} {s x : Operand} {nid : Nat} {q : SR} (ho : o.op = .call { callee := .builtin .append, args := #[s, x], argTypes := #[t, t] }) (h : sApp (q6 P t) o G nid (evE E s) (evE E x) = some q) : SOk P o E G q := by
  have hs' : s ∈ o.op.operands := by rw [ho]; simp [Op.operands, Call.operands]
  have hx' : x ∈ o.op.operands := by rw [ho]; simp [Op.operands, Call.operands]
  unfold sApp at h
  split at h
  · cases h
  rename_i hd
  obtain ⟨d, hd⟩ := qz hd
  split at h
  · cases h
  rename_i e k b z hse
  split at h
  · rename_i id ver hs
    split at h <;> try (cases h; done)
    rename_i hv
    have hv := wb2 hv
    split at h <;> try (cases h; done)
    rename_i tid ty l hb
    split at h <;> try (cases h; done)
    rename_i hc
    simp only [wb6] at hc
    have e1 := wb2 hc.1
    have e2 := wb2 hc.2.1
    subst e1
    split at h <;> cases h
    rename_i r hr
    refine SOk.memO fun l' hl' W n F H hdo hag => ?_
    obtain ⟨b1, b2, rfl⟩ := Vb hl'
    have hsrc := zds (H := H) hr e2 fun i hi => hag.h i (by simp [hi])
    refine PE.append (id := .o id) (ver := ver) (m := l.length) (m2 := r.1.length) (cs := l.flatMap (je ty)) (cs2 := r.1.flatMap (je ty)) ho hd (hdo d hd) hse (by rw [hag.ev hs', hs]; simp only [TS.den]) ?_ (by rw [hag.ev hx']; exact hsrc) (Y4 hc.2.2 _) b1 b2 ?_
    · rw [yb (hag.h id (by simp)) hb rfl hv, e2]
    · refine ⟨by simp only [TS.den], ?_⟩
      simp only [qr, wcd, BD.den, e2, wch, wdc]
  · rename_i hs
    split at h <;> try (cases h; done)
    rename_i ty hty
    split at h <;> try (cases h; done)
    rename_i hc
    simp only [wb6] at hc
    have e2 := wb2 hc.1
    split at h <;> cases h
    rename_i r hr
    refine SOk.memO fun l' hl' W n F H hdo hag => ?_
    obtain ⟨b1, b2, rfl⟩ := Vb hl'
    have hsrc := zds (H := H) hr e2 fun i hi => hag.h i (by simp [hi])
    refine waq (id := .o nid) (m2 := r.1.length) (cs2 := r.1.flatMap (je ty)) ho hd (hdo d hd) hse (by rw [hag.ev hs', hs]; simp only [TS.den]; rfl) (by rw [hag.ev hx']; exact hsrc) (Y4 hc.2 _) (by simpa using b1) (by simpa using b2) ?_
    rw [zij hag]
    refine ⟨by simp only [TS.den], ?_⟩
    simp only [qr, wcd, BD.den, e2, wc2]
  · cases h
abbrev ZY := TypeId → Option Dyn
def zyB (z : Value) (d : Dyn) : Bool := match d, z with
  | ⟨.int k, x⟩, .int k' y => ikB k k' && decide (x = y)
  | ⟨.bool, x⟩, .bool y => eqb x y
  | ⟨.str, []⟩, .string y => match y.data.toList with
    | [] => true
    | _ => false
  | ⟨.sl _, []⟩, .slice none 0 0 => true
  | ⟨.ref _, none⟩, .pointer none => true
  | _, _ => false
theorem zz6 {z : Value} {d : Dyn} (h : zyB z d = true) : Ref (.u z) (enc d.t d.x) ∧ wid d.t = 1 ∧ (enc d.t d.x).cells = [enc d.t d.x] ∧ z.oneCell' = true := by
  unfold zyB at h
  split at h
  · rename_i k x k' y
    simp only [wb6] at h
    rw [zp2 h.1, wc8 h.2]
    exact ⟨Ref.refl _, rfl, rfl, rfl⟩
  · rename_i x y
    rw [zus] at h
    have : x = y := by simpa using h
    subst this
    exact ⟨Ref.refl _, rfl, rfl, rfl⟩
  · rename_i y
    split at h <;> try (cases h; done)
    rename_i hy
    have : y = ⟨⟨[]⟩⟩ := by
      obtain ⟨⟨l⟩⟩ := y
      simp at hy; subst hy; rfl
    subst this
    exact ⟨Ref.refl _, rfl, rfl, rfl⟩
  · exact ⟨wbc _ _ _, rfl, rfl, rfl⟩
  · exact ⟨Ref.refl _, rfl, rfl, rfl⟩
  · cases h
def zg4 : Operand → Operand → Bool
  | .tmp a, .tmp b => Nat.beq a b
  | .const (.int _ a), .const (.int _ b) => decide (a = b)
  | _, _ => false
def sMk (zy : ZY) (se : SE) (o : Oper) (G : EG) (nid : Nat) (same : Bool) (x : TS) : Option SR := match vz o && same with
  | false => none
  | true => match se with
    | none => none
    | some (e, k, b, z) => match zy e with
      | none => none
      | some d => match Nat.beq k 1 && zyB z d with
        | true => q3 (Zo x) fun a => some (.memO Nat (mkO b a) (.own nid (nv G nid)) nid (fun m => ⟨nv G nid, some (.row e d.t (replicate m d.x))⟩) [])
        | false => none
theorem zoo {x y : Operand} (h : zg4 x y = true) (hx : ∃ k z, evP F x = .u (.int k z)) : ∃ k z, evP F x = .u (.int k z) ∧ ∃ k', evP F y = .u (.int k' z) := by
  unfold zg4 at h
  split at h
  · have := wb2 h
    subst this
    obtain ⟨k, z, e⟩ := hx
    exact ⟨k, z, e, k, e⟩
  · rename_i k a k' b
    have := wc8 h
    subst this
    exact ⟨k, a, rfl, k', rfl⟩
  · cases h
theorem zrq {α : Type} {f : α → List PV} {x : α} {y : PV} (h : f x = [y]) : ∀ m, (replicate m x).flatMap f = replicate m y
  | 0 => rfl
  | m + 1 => by rw [List.replicate_succ, wci, h, zrq h m]; rfl
theorem wba {p q : PV} (h : Ref p q) : ∀ m, RefL (replicate m p) (replicate m q)
  | 0 => RefL.nil
  | m + 1 => RefL.cons h (wba h m)
theorem sMk_ok {zy : ZY} {t : Nat} {x y : Operand} {nid : Nat} {q : SR} (ho : o.op = .makeSlice t x y) (h : sMk zy (q6 P t) o G nid (zg4 x y) (evE E x) = some q) : SOk P o E G q := by
  have hx' : x ∈ o.op.operands := by rw [ho]; simp [Op.operands]
  unfold sMk at h
  split at h
  · cases h
  rename_i hds
  simp only [wb6] at hds
  obtain ⟨d, hd⟩ := qz hds.1
  split at h
  · cases h
  rename_i e k b z hse
  split at h
  · cases h
  rename_i dy hdy
  split at h <;> try (cases h; done)
  rename_i hc
  simp only [wb6] at hc
  have ek := wb2 hc.1
  obtain ⟨r1, r2, r3, r4⟩ := zz6 hc.2
  obtain ⟨a, ha, h⟩ := jt h
  cases h
  obtain ⟨kd, hk⟩ := Jm ha
  refine SOk.memO fun m hm W n F H hdo hag => ?_
  obtain ⟨rfl, m1, m2⟩ := ztx hm
  have hev : evP F x = .u (.int kd m) := by rw [hag.ev hx', hk]
  obtain ⟨k1, z1, e1, k2, e2⟩ := zoo (F := F) hds.2 ⟨kd, m, hev⟩
  rw [hev] at e1
  cases e1
  rw [ek] at hse
  have hc1 : je dy.t dy.x = [enc dy.t dy.x] := by rw [← qc]; exact r3
  refine wah (bd := .row e 1 m (replicate m (.u z))) (bd' := .row e (wid dy.t) (replicate m dy.x).length ((replicate m dy.x).flatMap (je dy.t))) (by rw [r2, wb4, zrq hc1]; exact .row (wba r1 m)) (Ref.refl _) hdo ?_
  refine PE.makeSlice (id := .o nid) (m := m) ho hd (hdo d hd) hse r4 hev e2 m1 m2 ?_
  rw [zij hag]
  exact ⟨by simp only [TS.den], rfl⟩
inductive LK where
  | told (t : Ty)
  | own (t : Ty)
  | ownx
  | rows (it : TypeId) (t : Ty)
  | que
  | mrows (kt : Ty) (it : TypeId) (t : Ty)
theorem Ref.sl {k : Nat} {xs ys : List PV} (hl : xs.length = ys.length) (hc : RefL (xs.flatMap PV.cells) (ys.flatMap PV.cells)) (hu : ∀ y ∈ ys, y.cells.length = k) : Ref (.sl k xs) (.sl k ys) := fun Z H V w v hv => by
  cases hv with
  | nil k a c =>
    have : ys = [] := List.length_eq_zero_iff.1 hl.symm
    subst this
    exact .nil k a c
  | sl _ _ b o' c g hu' hlen hz hb h1 h2 =>
    rw [hl]
    refine .sl k ys b o' c g hu (by omega) hz hb (fun i p hi => ?_) fun i p hi => ?_
    · have hlt : i < (xs.flatMap PV.cells).length := by rw [hc.1]; exact (wb3.1 hi).1
      exact h1 i _ (wb5 hlt)
    · have hlt : i < (xs.flatMap PV.cells).length := by rw [hc.1]; exact (wb3.1 hi).1
      exact hc.2 i _ p (wb5 hlt) hi _ _ _ _ _ (h2 i _ (wb5 hlt))
def z3s : Nat → List Nat → Bool
  | _, [] => true
  | i, a :: l => Nat.beq a i && z3s (i + 1) l
theorem zv5 : ∀ {l : List Nat} {i : Nat}, z3s i l = true → l = (range l.length).map (i + ·)
  | [], _, _ => rfl
  | a :: l, i, h => by
    simp only [z3s, wb6] at h
    have e1 := wb2 h.1
    have e2 := zv5 h.2
    rw [wc1, List.range_succ_eq_map, wcj, wc7]
    rw [← e1]
    congr 1
    conv => lhs; rw [e2]
    apply wde
    intro x _
    simp only [Function.comp]
    omega
def zww (k : Nat) : List TS → Bool
  | [] => true
  | x :: xs => Nat.beq (Jo x) k && zww k xs
def z39 (G : EG) (k len : Nat) (ps : List (Nat × TS)) : Bool := z3s 0 (ps.map Prod.fst) && (Nat.beq ps.length len && (zww k (ps.map Prod.snd) && zu6 G (ps.map Prod.snd)))
def sLit (lk : Option LK) (se : SE) (o : Oper) (G : EG) (nid len : Nat) (ps : List (Nat × TS)) : Option SR := match vz o with
  | false => none
  | true => match lk with
    | none => none
    | some lk => match se with
      | none => none
      | some (e, k, b, z) => match (z.cells.toList.all Value.oneCell' && (Nat.ble (len * k) 16777216 && Nat.ble len 16777216)) && z39 G k len ps with
        | false => none
        | true => match lk with
          | .told ty => match Nat.beq (wid ty) k with
            | true => match zbr ty (ps.map Prod.snd) with
              | some l => some (.now (.v ⟨.sl ty, l⟩) (zdd (ps.map Prod.snd)))
              | none => none
            | false => none
          | .own ty => match Nat.beq (wid ty) k with
            | true => match zbr ty (ps.map Prod.snd) with
              | some l => some (.mem (.own nid (nv G nid)) nid ⟨nv G nid, some (.row e ty l)⟩ (zdd (ps.map Prod.snd)))
              | none => none
            | false => none
          | .ownx => some (.mem (.own nid (nv G nid)) nid ⟨nv G nid, some (.rowx e k (ps.map Prod.snd))⟩ (zdd (ps.map Prod.snd)))
          | .rows _ _ => none
          | .que => none
          | .mrows _ _ _ => none
theorem zsg {k : Nat} : ∀ {xs : List TS}, zww k xs = true → ∀ x ∈ xs, x.den.cells.length = k
  | [], _, x, hx => by simp at hx
  | y :: xs, h, x, hx => by
    simp only [zww, wb6] at h
    rcases wck.1 hx with rfl | hx
    · rw [zbu]; exact wb2 h.1
    · exact zsg h.2 x hx
theorem zs9 : ∀ {xs : List TS}, zu6 G xs = true → ∀ x ∈ xs, okT G x = true
  | [], _, x, hx => by simp at hx
  | y :: xs, h, x, hx => by
    simp only [zu6, wb6] at h
    rcases wck.1 hx with rfl | hx
    · exact h.1
    · exact zs9 h.2 x hx
theorem zn8 : ∀ {xs : List TS} {x : TS}, x ∈ xs → ∀ id ∈ zc9 x, id ∈ zdd xs
  | [], x, hx, _, _ => by simp at hx
  | y :: xs, x, hx, id, hid => by
    simp only [zdd, wcr]
    rcases wck.1 hx with rfl | hx
    · exact .inl hid
    · exact .inr (zn8 hx id hid)
theorem zwv {k len : Nat} {ps : List (Nat × TS)} (h : z39 G k len ps = true) (hH : ∀ id ∈ zdd (ps.map Prod.snd), H (.o id) = qr id (G id)) : zma H k len (ps.map fun x => (x.1, x.2.den)) = true := by
  unfold z39 at h
  simp only [wb6] at h
  obtain ⟨h1, h2, h3, h4⟩ := h
  have h2 := wb2 h2
  unfold zma
  rw [wb6, wc9, wcz]
  constructor
  · have := zv5 h1
    rw [wc7]
    have e : (ps.map ((fun x => x.1) ∘ fun x => (x.1, x.2.den))) = ps.map Prod.fst := rfl
    rw [e, this, wcs, h2]
    simp
  · intro p hp
    obtain ⟨x, hx, rfl⟩ := wcf.1 hp
    have hm : x.2 ∈ ps.map Prod.snd := wcf.2 ⟨x, hx, rfl⟩
    rw [wb6, wc9]
    exact ⟨zsg h3 _ hm, Ys (zs9 h4 _ hm) fun id hid => hH id (zn8 hm id hid)⟩
theorem z32 {lk : Option LK} {t len nid : Nat} {parts : Array (Nat × Operand)} {q : SR} (ho : o.op = .buildSlice t len parts) (h : sLit lk (q6 P t) o G nid len (parts.toList.map fun x => (x.1, evE E x.2)) = some q) : SOk P o E G q := by
  have hx' : ∀ x ∈ parts.toList, x.2 ∈ o.op.operands := fun x hx => by
    rw [ho]
    simp only [Op.operands, List.mem_toArray, wcf]
    exact ⟨x, hx, rfl⟩
  have hev : ∀ {rd F H}, Agr o E G rd F H → (parts.toList.map fun x => (x.1, evP F x.2)) = (parts.toList.map fun x => (x.1, evE E x.2)).map fun p => (p.1, p.2.den) := fun {rd F H} hag => by
    rw [wc7]
    exact wde fun x hx => by simp only [Function.comp]; rw [hag.ev (hx' x hx)]
  have hev2 : ∀ {rd F H}, Agr o E G rd F H → (parts.toList.map fun x => evP F x.2) = ((parts.toList.map fun x => (x.1, evE E x.2)).map Prod.snd).map TS.den := fun {rd F H} hag => by
    rw [wc7, wc7]
    exact wde fun x hx => by simp only [Function.comp]; rw [hag.ev (hx' x hx)]
  have hfl : ∀ xs : List TS, (xs.map TS.den).flatMap PV.cells = jo xs := fun xs => by rw [zhn, List.flatMap_map]
  generalize (parts.toList.map fun x => (x.1, evE E x.2)) = ps at *
  unfold sLit at h
  split at h
  · cases h
  rename_i hds
  obtain ⟨d, hd⟩ := qz hds
  split at h
  · cases h
  split at h
  · cases h
  rename_i e k b z hse
  split at h
  · cases h
  rename_i hc
  simp only [wb6] at hc
  obtain ⟨⟨c1, c2, c3⟩, c4⟩ := hc
  have c2 := wc0 c2
  have c3 := wc0 c3
  have c3 : len ≤ maxLen := by simp [maxLen]; omega
  have hlen : ps.length = len := by
    unfold z39 at c4
    simp only [wb6] at c4
    exact wb2 c4.2.1
  have hmake : ∀ {W n F H}, Jc n o → Agr o E G (nid :: zdd (ps.map Prod.snd)) F H → PE P W n o F H (fun p H' => p = .ps (.o nid) (nv G nid) ∧ H' = H.set (.o nid) ⟨nv G nid, some (.row e k len (jo (ps.map Prod.snd)))⟩) := fun {W n F H} hdo hag => by
    refine PE.buildSlice (id := .o nid) ho hd (hdo d hd) hse c1 c2 c3 (by rw [hev hag]; exact zwv c4 fun id hid => hag.h id (by simp [hid])) ?_
    rw [zij hag, hev2 hag, hfl]
    exact ⟨rfl, rfl⟩
  split at h
  · rename_i ty
    split at h <;> try (cases h; done)
    rename_i hw
    have hw := wb2 hw
    split at h <;> cases h
    rename_i l hl
    obtain ⟨r1, r2⟩ := zbb hl
    refine SOk.now fun W F H hag => ?_
    refine PQ.ref (PQ.buildSlice ho hse c1 c2 (by rw [hev hag]; exact zwv c4 fun id hid => hag.h id hid)) ?_
    rw [hev2 hag]
    simp only [TS.den]
    rw [zby, hw]
    refine Ref.sl (by simp [r2]) (by rw [hfl, Jl]; exact r1) fun y hy => ?_
    obtain ⟨x, _, rfl⟩ := wcf.1 hy
    rw [qc, jn, hw]
  · rename_i ty
    split at h <;> try (cases h; done)
    rename_i hw
    have hw := wb2 hw
    split at h <;> cases h
    rename_i l hl
    obtain ⟨r1, r2⟩ := zbb hl
    refine SOk.mem fun W n F H hdo hag => ?_
    refine wah (p0 := .ps (.o nid) (nv G nid)) (bd := .row e k len (jo (ps.map Prod.snd))) (bd' := .row e (wid ty) l.length (l.flatMap (je ty))) (by rw [hw, r2, wcs, hlen]; exact .row r1) (by simp only [TS.den]; exact Ref.refl _) hdo (hmake hdo hag)
  · cases h
    refine SOk.mem fun W n F H hdo hag => ?_
    refine PE.mono (hmake hdo hag) fun p H' ⟨e1, e2⟩ => ⟨by rw [e1]; simp only [TS.den], ?_⟩
    rw [e2]
    simp only [qr, wcd, BD.den, wcs, hlen]
  · cases h
  · cases h
  · cases h
end
theorem wbk {Z : ZM} {H : PHeap} {V : Nm → Value} {w : World} {k m c off : Nat} {xs : List PV} {ad ad' : Option Addr} (h : Rp Z H V w (.sl k xs) (.slice ad m c)) (hu : ∀ y ∈ xs, y.cells.length = k) (hom : off ≤ m) (hmc : m ≤ c)
    (hcase : (ad = none ∧ ad' = none) ∨ ∃ b o, ad = some ⟨b, 0, none⟩ ∧ ad' = some ⟨b, o, none⟩ ∧ (o = off * k ∨ c = off)) : Rp Z H V w (.sl k (xs.drop off)) (.slice ad' (m - off) (c - off)) := by
  cases h with
  | nil k a c =>
    rw [Nat.zero_sub, List.drop_nil]
    exact .nil _ _ _
  | sl k xs b o c g _ hlen hz hb h1 h2 =>
    rcases hcase with ⟨e, _⟩ | ⟨b', oo, e, rfl, h3⟩
    · cases e
    · cases e
      by_cases h0 : off = xs.length
      · rw [h0, List.drop_length, Nat.sub_self]
        exact .nil _ _ _
      · have ho : oo = off * k := by rcases h3 with h3 | h3; exact h3; omega
        subst ho
        have hfl : (xs.drop off).flatMap PV.cells = (xs.flatMap PV.cells).drop (off * k) := by
          have e1 : xs.flatMap PV.cells = (xs.take off).flatMap PV.cells ++ (xs.drop off).flatMap PV.cells := by rw [← wdc, wd2]
          have e2 : ((xs.take off).flatMap PV.cells).length = off * k := by
            have : ∀ (ys : List PV), (∀ y ∈ ys, y.cells.length = k) → (ys.flatMap PV.cells).length = ys.length * k := by
              intro ys
              induction ys with
              | nil => intro _; simp
              | cons y ys ih => intro hy; rw [wci, wch, ih (fun z hz => hy z (by simp [hz])), hy y (by simp), wc1, wc3]; omega
            rw [this _ fun y hy => hu y (wdx hy), wdf, Nat.min_eq_left hom]
          rw [e1, wdp e2]
        have := Rp.sl (Z := Z) (H := H) (V := V) (w := w) k (xs.drop off) b (off * k) (c - off) (fun i => g (off * k + i)) (fun y hy => hu y (weg hy)) (by rw [wd9]; omega) hz hb (fun i p hi => by
          rw [hfl, wcv] at hi
          have := h1 _ p hi
          rwa [wcx] at this) fun i p hi => by
          rw [hfl, wcv] at hi
          exact h2 _ p hi
        rwa [wd9] at this
theorem wbj {H : PHeap} {id : Nm} {ver off : Nat} {t : TypeId} {k n : Nat} {cs : List PV} (hl : yh H id ver = some (t, k, n, cs)) (xs : List PV) (hn : xs.length = n) (hu : ∀ y ∈ xs, y.cells.length = k)
    (h : ∀ (i : Nat) (p q : PV), cs[i]? = some p → (xs.flatMap PV.cells)[i]? = some q → View H p q) : View H (.qs id off k ver) (.sl k (xs.drop off)) := fun P W V w hr v hv => by
  obtain ⟨hb, hve⟩ := yc hl
  cases hv with
  | qs _ _ _ _ _ hvv hh =>
    obtain ⟨ad, m, c, ad', hV, rfl, hom, hmc, hcase⟩ := hh (by rw [hb]; rfl) hve
    have hrow := View.row hl xs hn hu h P W V w hr (V id) (.ps id ver _ hvv fun _ _ => rfl)
    rw [hV] at hrow
    exact wbk hrow hu hom hmc hcase
def zgs {α : Type} (f : TS → Option α) : List TS → Option (List α)
  | [] => some []
  | x :: xs => match f x with
    | none => none
    | some a => match zgs f xs with
      | none => none
      | some l => some (a :: l)
mutual
def yn (G : EG) : (t : Ty) → TS → Option t.D
  | .int k, s => Js (.int k) s
  | .bool, s => Js .bool s
  | .str, s => Js .str s
  | .sl t, s => match s with
    | .own id ver => match Nat.beq (G id).ver ver with
      | true => match (G id).b with
        | some (.row _ t' l) => Dyn.as ⟨.sl t', l⟩ (.sl t)
        | some (.rowx _ k xs) => match Nat.beq k (wid t) with
          | true => zgs (yn G t) xs
          | false => none
        | some (.rows _ _ t' l _ none) => Dyn.as ⟨.sl (.sl t'), l⟩ (.sl t)
        | _ => none
      | false => none
    | .q id k off ver => match Nat.beq (G id).ver ver && Nat.beq k (wid t) with
      | true => match (G id).b with
        | some (.row _ t' l) => match Dyn.as ⟨.sl t', l⟩ (.sl t) with
          | some l => some (l.drop off)
          | none => none
        | _ => none
      | false => none
    | s => Js (.sl t) s
  | .ref t, s => match s with
    | .pt id off ver => match Nat.beq off 0 && Nat.beq (G id).ver ver with
      | true => match (G id).b with
        | some (.box _ xs) => match yn G t (Yd (zq t) xs) with
          | some x => some (some x)
          | none => none
        | _ => none
      | false => none
    | .rd d => match d.as t with
      | some x => some (some x)
      | none => none
    | s => Js (.ref t) s
  | .nil, _ => none
  | .cons _ _, _ => none
  | .st r, s => match Js (.st r) s with
    | some x => some x
    | none => match Yl s with
      | some xs => zar G r xs
      | none => none
  | .arr n t, s => match Js (.arr n t) s with
    | some x => some x
    | none => match Yl s with
      | some xs => zvx n (zco (yn G t) (zq t) (wid t) n xs)
      | none => none
  | .tup r, s => match s with
    | .tup xs => Z9 G r xs
    | s => Js (.tup r) s
def zar (G : EG) : (r : Ty) → List TS → Option r.D
  | .nil, [] => some ()
  | .cons a r, xs => match Jt 512 (wid a) xs with
    | none => none
    | some q => match yn G a (Yd (zq a) q.1) with
      | none => none
      | some x => match zar G r q.2 with
        | none => none
        | some y => some (x, y)
  | _, _ => none
def Z9 (G : EG) : (r : Ty) → List TS → Option r.D
  | .nil, [] => some ()
  | .cons a r, x :: xs => match yn G a x with
    | none => none
    | some p => match Z9 G r xs with
      | none => none
      | some y => some (p, y)
  | _, _ => none
end
section
variable {H : PHeap} {G : EG}
theorem View.ref {p q r : PV} (h : View H p q) (hr : Ref q r) : View H p r := fun P W V w hw v hv => hr _ _ _ _ _ (h P W V w hw v hv)
theorem wau {a b c d : List PV} (h1 : ViewL H a b) (h2 : ViewL H c d) : ViewL H (a ++ c) (b ++ d) := ⟨by simp [h1.1, h2.1], fun i p q h3 h4 => by
  by_cases hi : i < a.length
  · rw [wcc hi] at h3
    rw [wcc (by rw [← h1.1]; exact hi)] at h4
    exact h1.2 i p q h3 h4
  · rw [wce (by omega)] at h3
    rw [wce (by rw [← h1.1]; omega), ← h1.1] at h4
    exact h2.2 _ p q h3 h4⟩
def VOk (H : PHeap) (s : TS) (t : Ty) (x : t.D) : Prop := View H s.den (enc t x) ∧ ViewL H s.den.cells (je t x)
theorem zy2 {t : Ty} (x : t.D) (h : zq t = false) : je t x = [enc t x] := by
  have := jn t x
  rw [Z4 h] at this
  unfold enc mkV; rw [h]
  match hc : je t x, this with
  | [c], _ => rfl
theorem VOk.one {s : TS} {t : Ty} {x : t.D} (h : View H s.den (enc t x)) (ha : zq t = false) (hs : zw s = false) : VOk H s t x := ⟨h, by
  rw [Jj hs, zy2 x ha]; exact ViewL.cons h (ViewL.nil H)⟩
theorem z8 {t : Ty} {s : TS} {x : t.D} (h : Js t s = some x) : VOk H s t x := by
  have hn : NoP s.den ∧ ∀ c ∈ s.den.cells, NoP c := by
    unfold Js at h
    split at h
    · simp only [TS.den]; exact ⟨Qw _ _, fun c hc => (Qw _ _).cell hc⟩
    · simp only [TS.den]; exact ⟨zbi _, fun c hc => (zbi _).cell hc⟩
    · cases h
  obtain ⟨h1, h2⟩ := Qs h
  exact ⟨View.ref (View.noP hn.1) h2, h1.1, fun i p q h3 h4 => View.ref (View.noP (hn.2 p (wb8 h3))) (h1.2 i p q h3 h4)⟩
theorem zk0 {t : Ty} {f : TS → Option t.D} (hf : ∀ s x, f s = some x → VOk H s t x) : ∀ {xs : List TS} {l : List t.D}, zgs f xs = some l → ViewL H (jo xs) (l.flatMap (je t)) ∧ l.length = xs.length
  | [], l, h => by simp only [zgs] at h; cases h; simp only [jo, wel]; exact ⟨ViewL.nil H, rfl⟩
  | x :: xs, l, h => by
    simp only [zgs] at h
    split at h <;> try (cases h; done)
    rename_i a ha
    split at h <;> try (cases h; done)
    rename_i l' hl
    cases h
    obtain ⟨h1, h2⟩ := zk0 hf hl
    refine ⟨?_, by simp [h2]⟩
    simp only [jo, wci]
    exact wau (hf _ _ ha).2 h1
theorem zev (t : Ty) : yn G t .dead = none := by cases t <;> simp [yn, Js, Yl, zou, zfd]
theorem zmn {t : Ty} {f : TS → Option t.D} (hf : ∀ s x, f s = some x → VOk H s t x) (hd : f .dead = none) : ∀ (n : Nat) (xs : List TS) (l : List t.D), zco f (zq t) (wid t) n xs = some l → ViewL H (jo xs) (l.flatMap (je t))
  | 0, [], l, h => by simp only [zco] at h; cases h; simp only [jo, wel]; exact ViewL.nil H
  | 0, _ :: _, l, h => by simp [zco] at h
  | n + 1, xs, l, h => by
    simp only [zco] at h
    split at h <;> try (cases h; done)
    rename_i r hr
    split at h <;> try (cases h; done)
    rename_i a ha
    split at h <;> try (cases h; done)
    rename_i l' hl
    cases h
    obtain ⟨h1, h2⟩ := zd _ _ _ _ hr
    have hnd : Yd (zq t) r.1 ≠ .dead := fun e => by rw [e, hd] at ha; cases ha
    have h3 := (hf _ _ ha).2
    rw [Qg hnd] at h3
    rw [wci, ← h1]
    exact wau h3 (zmn hf hd n r.2 l' hl)
theorem wa0 {s : TS} {xs : List TS} {t : Ty} {x : t.D} (hs : Yl s = some xs) (ha : zq t = true) (h : ViewL H (jo xs) (je t x)) : VOk H s t x := by
  unfold VOk
  rw [zay hs]
  refine ⟨?_, h⟩
  unfold enc mkV
  rw [ha]
  exact View.agg h.1 h.2
theorem zza {H : PHeap} {id : Nm} {ver : Nat} {tid : TypeId} {t : Ty} {l : List t.D} (h : yh H id ver = some (tid, wid t, l.length, l.flatMap (je t))) : View H (.ps id ver) (enc (.sl t) l) := by
  rw [zby]
  refine View.row h _ (by simp) (fun y hy => ?_) fun i p q h1 h2 => ?_
  · obtain ⟨z, _, rfl⟩ := wcf.1 hy; rw [qc, jn]
  · rw [Jl, h1] at h2
    cases h2
    obtain ⟨z, _, hz⟩ := wcu.1 (wb8 h1)
    exact View.noP (q7 _ _ _ hz)
theorem zyo {id ver kv : Nat} {tid it : TypeId} {t : Ty} {l : List (List t.D)} (hag : AgN H G id) (hb : (G id).b = some (.rows tid it t l kv none)) (hv : (G id).ver = ver) : View H (.ps (.o id) ver) (enc (.sl (.sl t)) l) := by
  rw [zby]
  refine View.row (n := l.length) (yb hag.1 hb rfl hv) _ (by simp) (fun y hy => ?_) fun i p q h1 h2 => ?_
  · obtain ⟨z, _, rfl⟩ := wcf.1 hy; rw [qc, jn]; rfl
  · have e : l.flatMap (je (.sl t)) = l.map (enc (.sl t)) := by
      rw [List.map_eq_flatMap]; rfl
    rw [Jl, e, wb9] at h2
    obtain ⟨r, hr, rfl⟩ := wca.1 h2
    have hlt := (wb3.1 hr).1
    simp only [wb9, List.getElem?_range hlt, wcd, wco] at h1
    subst h1
    refine zza (tid := it) ?_
    unfold yh
    rw [hag.2 i]
    simp only [Qp, hb, wc4, BD.ch, Hole.is, hr, wcd, if_true]
mutual
theorem Ja (hG : ∀ id, (G id).b.isSome = true → AgN H G id) : ∀ (t : Ty) (s : TS) (x : t.D), yn G t s = some x → VOk H s t x
  | .int k, s, x, h => z8 (by simpa only [yn] using h)
  | .bool, s, x, h => z8 (by simpa only [yn] using h)
  | .str, s, x, h => z8 (by simpa only [yn] using h)
  | .sl t, s, x, h => by
    simp only [yn] at h
    split at h
    · rename_i _ id ver
      split at h <;> try (cases h; done)
      rename_i hv
      have hv := wb2 hv
      split at h
      · rename_i tid t' l hb
        have := wac h
        injection this with e1 e2
        injection e1 with e1
        subst e1
        have e2 := eq_of_heq e2
        subst e2
        refine VOk.one ?_ rfl rfl
        simp only [TS.den]
        rw [zby]
        refine View.row (yb (hG id (by rw [hb]; rfl)).1 hb rfl hv) _ (by simp) (fun y hy => ?_) fun i p q h1 h2 => ?_
        · obtain ⟨z, _, rfl⟩ := wcf.1 hy; rw [qc, jn]
        · rw [Jl, h1] at h2
          cases h2
          obtain ⟨z, _, hz⟩ := wcu.1 (wb8 h1)
          exact View.noP (q7 _ _ _ hz)
      · rename_i tid k xs hb
        split at h <;> try (cases h; done)
        rename_i hk
        have hk := wb2 hk
        obtain ⟨h1, h2⟩ := zk0 (fun s x => Ja hG t s x) h
        refine VOk.one ?_ rfl rfl
        simp only [TS.den]
        rw [zby, ← hk]
        refine View.row (yb (hG id (by rw [hb]; rfl)).1 hb rfl hv) _ (by simp [h2]) (fun y hy => ?_) fun i p q h3 h4 => ?_
        · obtain ⟨z, _, rfl⟩ := wcf.1 hy; rw [qc, jn, hk]
        · rw [Jl] at h4; exact h1.2 i p q h3 h4
      · rename_i tid it t' l kv hb
        cases wac h
        refine VOk.one ?_ rfl rfl
        simp only [TS.den]
        exact zyo (hG id (by rw [hb]; rfl)) hb hv
      · cases h
    · rename_i _ id k off ver
      split at h <;> try (cases h; done)
      rename_i hv
      simp only [wb6] at hv
      obtain ⟨gv, hk⟩ := hv
      have hk := wb2 hk
      have gv := wb2 gv
      subst hk
      split at h <;> try (cases h; done)
      rename_i tid t' l hb
      split at h <;> cases h
      rename_i l' hl
      have := wac hl
      injection this with e1 e2
      injection e1 with e1
      subst e1
      have e2 := eq_of_heq e2
      subst e2
      refine VOk.one ?_ rfl rfl
      simp only [TS.den]
      rw [zby, List.map_drop]
      refine wbj (yb (hG id (by rw [hb]; rfl)).1 hb rfl gv) _ (by simp) (fun y hy => ?_) fun i p q h1 h2 => ?_
      · obtain ⟨z, _, rfl⟩ := wcf.1 hy; rw [qc, jn]
      · rw [Jl, h1] at h2
        cases h2
        obtain ⟨z, _, hz⟩ := wcu.1 (wb8 h1)
        exact View.noP (q7 _ _ _ hz)
    · exact z8 h
  | .ref t, s, x, h => by
    simp only [yn] at h
    split at h
    · rename_i _ id off ver
      split at h <;> try (cases h; done)
      rename_i hv
      simp only [wb6] at hv
      obtain ⟨g0, gv⟩ := hv
      have g0 := wb2 g0
      have gv := wb2 gv
      subst g0
      split at h <;> try (cases h; done)
      rename_i tid xs hb
      split at h <;> cases h
      rename_i y hy
      have hnd : Yd (zq t) xs ≠ .dead := fun e => by rw [e, zev] at hy; cases hy
      have h1 := (Ja hG t _ y hy).2
      rw [Qg hnd] at h1
      refine VOk.one ?_ rfl rfl
      simp only [TS.den]
      show View H (.pp (.o id) 0 ver) (.rp (je t y))
      exact View.pp (yv (hG id (by rw [hb]; rfl)).1 hb gv) (by rw [wcx]; exact h1.1) fun i p q h3 h4 => h1.2 i p q (by rw [wcx] at h3; exact h3) h4
    · rename_i _ d
      split at h <;> cases h
      rename_i y hy
      have := wac hy
      subst this
      refine VOk.one ?_ rfl rfl
      simp only [TS.den]
      exact View.noP (.rp _ (q7 _ _))
    · exact z8 h
  | .nil, s, x, h => by simp [yn] at h
  | .cons _ _, s, x, h => by simp [yn] at h
  | .st r, s, x, h => by
    simp only [yn] at h
    split at h
    · cases h; exact z8 (by assumption)
    · split at h <;> try (cases h; done)
      rename_i xs hp
      exact wa0 hp rfl (zsy hG r xs x h)
  | .arr n t, s, x, h => by
    simp only [yn] at h
    split at h
    · cases h; exact z8 (by assumption)
    · split at h <;> try (cases h; done)
      rename_i xs hp
      exact wa0 hp rfl (zmn (fun s x => Ja hG t s x) (zev t) _ _ _ (zms h))
  | .tup r, s, x, h => by
    simp only [yn] at h
    split at h
    · rename_i _ xs
      have h1 := zst hG r xs x h
      refine VOk.one ?_ rfl rfl
      simp only [TS.den]
      exact View.tup h1.1 h1.2
    · exact z8 h
theorem zsy (hG : ∀ id, (G id).b.isSome = true → AgN H G id) : ∀ (r : Ty) (xs : List TS) (x : r.D), zar G r xs = some x → ViewL H (jo xs) (je r x)
  | .nil, xs, x, h => by
    cases xs with
    | nil => simp only [jo, je]; exact ViewL.nil H
    | cons _ _ => simp [zar] at h
  | .cons a r, xs, x, h => by
    simp only [zar] at h
    split at h <;> try (cases h; done)
    rename_i q hq
    split at h <;> try (cases h; done)
    rename_i p hp
    split at h <;> try (cases h; done)
    rename_i y hy
    cases h
    obtain ⟨h1, h2⟩ := zd _ _ _ _ hq
    have hnd : Yd (zq a) q.1 ≠ .dead := fun e => by rw [e, zev] at hp; cases hp
    have h3 := (Ja hG a _ _ hp).2
    rw [Qg hnd] at h3
    simp only [je]
    rw [← h1]
    exact wau h3 (zsy hG r q.2 y hy)
  | .int k, xs, x, h => by simp [zar] at h
  | .bool, xs, x, h => by simp [zar] at h
  | .str, xs, x, h => by simp [zar] at h
  | .sl t, xs, x, h => by simp [zar] at h
  | .ref t, xs, x, h => by simp [zar] at h
  | .st r, xs, x, h => by simp [zar] at h
  | .arr n t, xs, x, h => by simp [zar] at h
  | .tup r, xs, x, h => by simp [zar] at h
theorem zst (hG : ∀ id, (G id).b.isSome = true → AgN H G id) : ∀ (r : Ty) (xs : List TS) (x : r.D), Z9 G r xs = some x → ViewL H (q8 xs) (q5 r (je r x))
  | .nil, xs, x, h => by
    cases xs with
    | nil => simp only [q8, q5]; exact ViewL.nil H
    | cons _ _ => simp [Z9] at h
  | .cons a r, xs, x, h => by
    cases xs with
    | nil => simp [Z9] at h
    | cons z xs =>
      simp only [Z9] at h
      split at h <;> try (cases h; done)
      rename_i p hp
      split at h <;> try (cases h; done)
      rename_i y hy
      cases h
      simp only [q8, je, q5]
      have hl := jn a p
      rw [wed hl, wdp hl]
      exact ViewL.cons (Ja hG a z p hp).1 (zst hG r xs y hy)
  | .int k, xs, x, h => by simp [Z9] at h
  | .bool, xs, x, h => by simp [Z9] at h
  | .str, xs, x, h => by simp [Z9] at h
  | .sl t, xs, x, h => by simp [Z9] at h
  | .ref t, xs, x, h => by simp [Z9] at h
  | .st r, xs, x, h => by simp [Z9] at h
  | .arr n t, xs, x, h => by simp [Z9] at h
  | .tup r, xs, x, h => by simp [Z9] at h
end
end
def pvs (ds : List Dyn) : List PV := ds.map Dyn.pv
def zw3 (ds : List Dyn) : EF := fun s => match ds[s]? with
  | some d => .v d
  | none => UND
def zt1 (P : Program) (E : EF) (G : EG) : ResultVar → Option TS
  | .tmp t => some (E t)
  | .cell a t => match asz P t with
    | none => none
    | some (ag, k) => match E a with
      | .pt id off ver => match Nat.beq (G id).ver ver with
        | true => match (G id).b with
          | some (.box _ xs) => ldT ag k off xs
          | _ => none
        | false => none
      | _ => none
def zpg (P : Program) (E : EF) (G : EG) : List ResultVar → Option (List TS)
  | [] => some []
  | r :: rs => match zt1 P E G r with
    | none => none
    | some x => match zpg P E G rs with
      | none => none
      | some xs => some (x :: xs)
def zjx (P : Program) (rs : List ResultVar) (E : EF) (G : EG) : Option TS := match rs with
  | [r] => zt1 P E G r
  | l => match zpg P E G l with
    | some xs => some (.tup xs)
    | none => none
section
variable {P : Program} {E : EF} {G : EG} {R : PHeap}
theorem ztg {r : ResultVar} {s : TS} (h : zt1 P E G r = some s) : ∃ q, zcd P (qd G R) (v6 E) r = some q ∧ Ref q s.den := by
  cases r with
  | tmp t => simp only [zt1] at h; cases h; exact ⟨_, rfl, Ref.refl _⟩
  | cell a t =>
    simp only [zt1] at h
    split at h <;> try (cases h; done)
    rename_i ag k hsz
    split at h <;> try (cases h; done)
    rename_i id off ver hE
    split at h <;> try (cases h; done)
    rename_i hv
    have hv := wb2 hv
    split at h <;> try (cases h; done)
    rename_i tid xs hb
    obtain ⟨⟨p, h1, h2⟩, _⟩ := zbf h
    refine ⟨p, ?_, h2⟩
    show Qq P (qd G R) t (E a).den = some p
    rw [hE]
    simp only [TS.den]
    unfold Qq
    rw [hsz]
    simp only
    rw [yv (H := qd G R) rfl hb hv]; exact h1
theorem ztk : ∀ {rs : List ResultVar} {xs : List TS}, zpg P E G rs = some xs → ∃ qs, rs.mapM (zcd P (qd G R) (v6 E)) = some qs ∧ RefL qs (q8 xs)
  | [], xs, h => by simp only [zpg] at h; cases h; exact ⟨[], rfl, by simp only [q8]; exact RefL.nil⟩
  | r :: rs, xs, h => by
    simp only [zpg] at h
    split at h <;> try (cases h; done)
    rename_i x hx
    split at h <;> cases h
    rename_i ys hys
    obtain ⟨q, h1, h2⟩ := ztg (R := R) hx
    obtain ⟨qs, h3, h4⟩ := ztk hys
    refine ⟨q :: qs, ?_, by simp only [q8]; exact RefL.cons h2 h4⟩
    rw [wds, h1, h3]; rfl
theorem zqk {fn : Func} {s : TS} (h : zjx P fn.results.toList E G = some s) : ∃ q, zvf P fn (v6 E) (qd G R) = some q ∧ Ref q s.den := by
  unfold zjx at h
  unfold zvf
  generalize fn.results.toList = l at h
  have many : ∀ {l : List ResultVar}, (match zpg P E G l with
      | some xs => some (TS.tup xs)
      | none => none) = some s → ∃ q, (l.mapM (zcd P (qd G R) (v6 E))).map .tup = some q ∧ Ref q s.den := fun {l} h => by
    split at h <;> cases h
    rename_i xs hxs
    obtain ⟨qs, h1, h2⟩ := ztk (R := R) hxs
    exact ⟨.tup qs, by rw [h1]; rfl, by simp only [TS.den]; exact Ref.tup h2⟩
  match l, h with
  | [], h => exact many h
  | [r], h => exact ztg h
  | _ :: _ :: _, h => exact many h
end
noncomputable def funP (P : Program) (sy : SyT) (hint : Nat → Option HK) (n : Nat) (rs : List ResultVar) (c : Code) (ats : List Ty) (rt : Ty) (nn : Nat) (t : DL ats) : Option rt.D :=
  ql sy nn hint 0 0 n c 1 0 (zw3 (vq ats t)) waj fun e _ E G => match e with
    | .normal => match zjx P rs E G with
      | some s => yn G rt s
      | none => none
    | .ret => match zjx P rs E G with
      | some s => yn G rt s
      | none => none
    | _ => none
def zpo (P : Program) (f : FuncId) (ats : List Ty) (rt : Ty) (g : DL ats → Option rt.D) : Prop :=
  yr P f = true ∧ ∀ t r, g t = some r → PCall P f (pvs (vq ats t)) (· = enc rt r)
def R0 : PHeap := fun _ => ⟨0, none⟩
theorem zop : qd waj R0 = waa := by
  funext k
  cases k <;> rfl
theorem war {P : Program} {f : FuncId} {fn : Func} {c : Code} {as' : List PV} {R : PV → Prop} (hf : P.funcs[f]? = some fn) (hb : fn.body = some c) (hl : as'.length ≤ fn.ntmps)
    (h : ∀ W : Env, (∀ i, W.G i = .unk) → PC P W fn.ntmps c (zda as') waa fun e F H => (e = .normal ∨ e = .ret) ∧ ∃ q p, zvf P fn F H = some q ∧ View H q p ∧ NoP p ∧ R p) : PCall P f as' R := fun Z w vs hgw hz hzm hR => by
  refine calls_of_wp hf hb (h { w := w, Z := Z, hm := hzm, gw := hgw } (fun _ => rfl) V0 _ w _ (Rel.enter hgw hz hzm hR hl) fun e F' H' V' a' w' ⟨he, q, p, hq, hv, hn, hp⟩ hr => ?_)
  obtain ⟨v, hrun, hqv⟩ := zlc hr hq
  have := hv P _ V' w' hr.heap v hqv
  rcases he with rfl | rfl
  · exact ⟨hr.defers, v, hrun, v, p, rfl, hp, hn, this, hr.heap.below⟩
  · exact ⟨hr.defers, v, hrun, v, p, rfl, hp, hn, this, hr.heap.below⟩
theorem zmi (ds : List Dyn) : zda (pvs ds) = v6 (zw3 ds) := by
  funext t
  unfold zda v6 zw3 pvs
  rw [wb9]
  cases ds[t]? with
  | none => simp only [Option.map_none, Option.getD_none]; exact und_den.symm
  | some d => simp only [wcd, wct, TS.den]; rfl
theorem zks : ∀ (ts : List Ty) (t : DL ts), (vq ts t).length = ts.length
  | [], _ => rfl
  | [t], _ => rfl
  | t :: u :: ts, x => by simp only [vq, wc1, zks (u :: ts)]
theorem z2k {P : Program} {sy : SyT} (hsy : znb P sy) (hm : P.follows .mixedOrders = true) {hint : Nat → Option HK} {n : Nat} {rs : List ResultVar} {c : Code} {ats : List Ty} {rt : Ty} {nn : Nat} {f : FuncId} {fn : Func} (hf : P.funcs[f]? = some fn) (hb : fn.body = some c) (hn : fn.ntmps = n) (hr : fn.results.toList = rs) (hl : Nat.ble ats.length n = true) (hg : yr P f = true) : zpo P f ats rt (funP P sy hint n rs c ats rt nn) := by
  subst hn; subst hr
  refine ⟨hg, fun t r h => ?_⟩
  have hl' : (pvs (vq ats t)).length ≤ fn.ntmps := by unfold pvs; rw [wcs, zks]; exact wc0 hl
  refine war hf hb hl' fun W hW => ?_
  have hR : RestOk 0 R0 := fun i bd h => by cases h
  have hGh : GhOk 0 W := fun i => by rw [hW]; exact .unk
  obtain ⟨e, nx, E', G', h3, _, ho⟩ := vk (P := P) (fuel := nn) (hint := hint) (ctx := 0) (n := fn.ntmps) (b := 0) hm hsy c 1 0 (zw3 (vq ats t)) waj _ r h
  have this := ho W R0 hGh hR
  rw [zop] at this
  rw [zmi]
  refine PC.mono this fun e2 F' H' ⟨h0, h1, h2⟩ => ?_
  subst h0; subst h1; subst h2
  have key : ∀ {o : Option TS}, o = zjx P fn.results.toList E' G' → (match o with
      | some s => yn G' rt s
      | none => none) = some r → ∃ q p, zvf P fn (v6 E') (qd G' R0) = some q ∧ View (qd G' R0) q p ∧ NoP p ∧ p = enc rt r := fun {o} ho h => by
    cases o with
    | none => cases h
    | some s =>
      simp only at h
      obtain ⟨q, hq, hrq⟩ := zqk (R := R0) ho.symm
      have hv := (Ja (H := qd G' R0) (fun id _ => ⟨rfl, fun j => rfl⟩) rt s r h).1
      exact ⟨q, _, hq, fun P W V w hw v hv' => hv P W V w hw v (hrq _ _ _ _ _ hv'), Qw _ _, rfl⟩
  cases e2 with
  | normal => exact ⟨.inl rfl, key rfl h3⟩
  | ret => exact ⟨.inr rfl, key rfl h3⟩
  | _ => cases h3
structure PF where
  ats : List Ty
  rt : Ty
  g : DL ats → Option rt.D
abbrev zuh := FuncId → Option PF
def Qh (P : Program) (S : zuh) : Prop := ∀ f x, S f = some x → zpo P f x.ats x.rt x.g
def zjg (E : EF) (c : Call) : Option (FuncId × List TS) := match c.callee with
  | .value x => match evE E x with
    | .fn (.func f) a b => some (f, a ++ c.args.toList.map (evE E) ++ b)
    | _ => none
  | _ => none
mutual
def zlx : TS → Bool
  | .v _ => true
  | .c _ => true
  | .rd _ => true
  | .fn _ a b => zi2 a && zi2 b
  | .agg xs => zi2 xs
  | .tup xs => zi2 xs
  | _ => false
def zi2 : List TS → Bool
  | [] => true
  | x :: xs => zlx x && zi2 xs
end
mutual
theorem zvv : ∀ s : TS, zlx s = true → NoP s.den
  | .v d, h => by simp only [TS.den]; exact Qw _ _
  | .c v, h => by simp only [TS.den]; exact zbi v
  | .rd d, h => by simp only [TS.den]; exact .rp _ (q7 _ _)
  | .fn f a b, h => by
    simp only [zlx, wb6] at h
    simp only [TS.den]; exact .fn _ _ _ (zak a h.1).1 (zak b h.2).1
  | .agg xs, h => by
    simp only [zlx] at h
    simp only [TS.den]; exact .agg _ (zak xs h).2
  | .tup xs, h => by
    simp only [zlx] at h
    simp only [TS.den]; exact .tup _ (zak xs h).1
  | .own _ _, h => by simp [zlx] at h
  | .q _ _ _ _, h => by simp [zlx] at h
  | .pt _ _ _, h => by simp [zlx] at h
  | .elt _ _ _ _ _, h => by simp [zlx] at h
  | .dead, h => by simp [zlx] at h
theorem zak : ∀ xs : List TS, zi2 xs = true → (∀ p ∈ q8 xs, NoP p) ∧ ∀ p ∈ jo xs, NoP p
  | [], _ => ⟨fun p hp => by simp [q8] at hp, fun p hp => by simp [jo] at hp⟩
  | x :: xs, h => by
    simp only [zi2, wb6] at h
    have h1 := zvv x h.1
    obtain ⟨h2, h3⟩ := zak xs h.2
    refine ⟨fun p hp => ?_, fun p hp => ?_⟩
    · simp only [q8, wck] at hp
      rcases hp with rfl | hp
      · exact h1
      · exact h2 p hp
    · simp only [jo, wcr] at hp
      rcases hp with hp | hp
      · exact h1.cell hp
      · exact h3 p hp
end
def zbm : (ts : List Ty) → List TS → Option (DL ts)
  | [], [] => some ()
  | [t], [x] => toT t x
  | t :: u :: ts, x :: xs => match toT t x with
    | none => none
    | some a => match zbm (u :: ts) xs with
      | none => none
      | some b => some (a, b)
  | _, _ => none
theorem zpa : ∀ {ts : List Ty} {xs : List TS} {t : DL ts}, zbm ts xs = some t → RefL (q8 xs) (pvs (vq ts t))
  | [], xs, t, h => by
    cases xs with
    | nil => simp only [q8]; exact RefL.nil
    | cons _ _ => simp [zbm] at h
  | [a], xs, t, h => by
    match xs, h with
    | [x], h =>
      simp only [zbm] at h
      simp only [q8]
      exact RefL.cons (Qr _ _ _ h).2 RefL.nil
    | [], h => simp [zbm] at h
    | _ :: _ :: _, h => simp [zbm] at h
  | a :: u :: ts, xs, t, h => by
    cases xs with
    | nil => simp [zbm] at h
    | cons x xs =>
      simp only [zbm] at h
      split at h <;> try (cases h; done)
      rename_i p hp
      split at h <;> cases h
      rename_i q hq
      simp only [q8]
      exact RefL.cons (Qr _ _ _ hp).2 (zpa hq)
def zz9 (S : zuh) (E : EF) (c : Call) : Option SR := match zjg E c with
  | none => none
  | some (f, az) => match S f with
    | none => none
    | some x => match zi2 az with
      | true => match zbm x.ats az with
        | some t => some (.vo x.rt (x.g t))
        | none => none
      | false => none
section
variable {P : Program} {o : Oper} {E : EF} {G : EG} {rd : List Nat} {F : PFrame} {H : PHeap} {W : Env}
theorem zbl {c : Call} {f : FuncId} {az : List TS} (ho : o.op = .call c) (hag : Agr o E G rd F H) (h : zjg E c = some (f, az)) : Q8 F c = some (f, q8 az) := by
  unfold zjg at h
  unfold Q8
  split at h
  · rename_i x hc
    rw [hc]
    simp only
    have hx : evP F x = (evE E x).den := hag.ev (by rw [ho]; simp [Op.operands, Call.operands, hc])
    split at h
    · rename_i g a b hx'
      cases h
      rw [hx, hx']
      have e : c.args.toList.map (evP F) = q8 (c.args.toList.map (evE E)) := by
        rw [Zf, wc7]
        exact wde fun y hy => hag.ev (by rw [ho]; simp only [Op.operands, Call.operands, Array.mem_append]; exact .inr (by simpa using hy))
      simp only [TS.den, zte, e]
    · cases h
  · cases h
theorem z0o {S : zuh} (hS : Qh P S) {c : Call} {q : SR} (ho : o.op = .call c) (h : zz9 S E c = some q) : SOk P o E G q := by
  unfold zz9 at h
  split at h <;> try (cases h; done)
  rename_i f az ht
  split at h <;> try (cases h; done)
  rename_i x hx
  split at h <;> try (cases h; done)
  rename_i hn
  split at h <;> cases h
  rename_i t hrd
  obtain ⟨hg, hc⟩ := hS f x hx
  refine SOk.vo fun r hr W F H hag => ?_
  have hnp := (zak az hn).1
  have hrf := zpa hrd
  have hv : ViewL waa (q8 az) (pvs (vq x.ats t)) := ⟨hrf.1, fun i p q h1 h2 => View.ref (View.noP (hnp p (wb8 h1))) (hrf.2 i p q h1 h2)⟩
  exact wbu ho (zbl ho hag ht) hg hv hnp (hc t r hr)
end
mutual
def idvT : TS → List (Nat × Nat)
  | .own id ver => [(id, ver)]
  | .q id _ _ ver => [(id, ver)]
  | .pt id _ ver => [(id, ver)]
  | .elt id _ _ _ ver => [(id, ver)]
  | .kid id _ v => [(id, v)]
  | .kel id _ _ _ _ v => [(id, v)]
  | .fn _ a b => zb9 a ++ zb9 b
  | .agg xs => zb9 xs
  | .tup xs => zb9 xs
  | _ => []
def zb9 : List TS → List (Nat × Nat)
  | [] => []
  | x :: xs => idvT x ++ zb9 xs
end
def V5 (G : EG) : List (Nat × Nat) → List Nat
  | [] => []
  | x :: r => match (Nat.beq x.2 (G x.1).ver || Nat.beq x.2 (G x.1).cv) && (G x.1).b.isSome with
    | true => x.1 :: V5 G r
    | false => V5 G r
def idsB : Option BD → List (Nat × Nat)
  | some (.rowx _ _ xs) => zb9 xs
  | some (.box _ xs) => zb9 xs
  | _ => []
def zin (G : EG) : Nat → List Nat → List Nat → Option (List Nat)
  | 0, _, _ => none
  | m + 1, [], seen => some seen
  | m + 1, i :: t, seen => match zdz seen i with
    | true => zin G m t seen
    | false => zin G m (V5 G (idsB (G i).b) ++ t) (seen ++ [i])
theorem zao {l : List Nat} {x : Nat} : zdz l x = true ↔ x ∈ l := by
  unfold zdz
  rw [wdv]
  constructor
  · rintro ⟨y, h, e⟩; rw [ju e]; exact h
  · exact fun h => ⟨x, h, wdm x⟩
def J4 (D : List Nat) (G : EG) : EG := fun id => match zdz D id with
  | true => G id
  | false => ⟨(G id).ver, none⟩
mutual
def scT : Ty → Bool
  | .int _ => true
  | .bool => true
  | .str => true
  | .arr _ t => scT t
  | .nil => true
  | .cons a r => scT a && scT r
  | .st r => scT r
  | .tup r => scT r
  | _ => false
end
theorem zdj {D : List Nat} {G : EG} {H : PHeap} (h : ∀ id ∈ D, AgN H G id) : ∀ id, ((J4 D G) id).b.isSome = true → AgN H (J4 D G) id := fun id hs => by
  cases hm : zdz D id with
  | true =>
    have e : J4 D G id = G id := by unfold J4; rw [hm]
    unfold AgN; rw [e]; exact h id (zao.1 hm)
  | false => unfold J4 at hs; rw [hm] at hs; simp at hs
theorem zz4 {t : Ty} {cs : List PV} (hl : cs.length = wid t) (h : ∀ c ∈ cs, Sc c) : Sc (mkV t cs) := by
  unfold mkV
  cases ha : zq t with
  | true => exact .agg _ h
  | false =>
    rw [Z4 ha] at hl
    match cs, hl with
    | [c], _ => exact h c (by simp)
mutual
theorem zb3 : ∀ (t : Ty) (x : t.D), scT t = true → ∀ c ∈ je t x, Sc c
  | .int k, x, h, c, hc => by simp only [je, wcb] at hc; subst hc; exact .u _
  | .bool, x, h, c, hc => by simp only [je, wcb] at hc; subst hc; exact .u _
  | .str, x, h, c, hc => by simp only [je, wcb] at hc; subst hc; exact .u _
  | .sl _, x, h, c, hc => by simp [scT] at h
  | .ref _, x, h, c, hc => by simp [scT] at h
  | .arr n t, x, h, c, hc => by
    simp only [scT] at h
    simp only [je] at hc
    obtain ⟨y, _, hy⟩ := wcu.1 hc
    exact zb3 t y h c hy
  | .nil, x, h, c, hc => by simp [je] at hc
  | .cons a r, x, h, c, hc => by
    simp only [scT, wb6] at h
    simp only [je, wcr] at hc
    rcases hc with hc | hc
    · exact zb3 a x.1 h.1 c hc
    · exact zb3 r x.2 h.2 c hc
  | .st r, x, h, c, hc => by
    simp only [scT] at h
    simp only [je] at hc
    exact zb3 r x h c hc
  | .tup r, x, h, c, hc => by
    simp only [scT] at h
    simp only [je, wcb] at hc
    subst hc
    exact .tup _ (zow r x h)
theorem zow : ∀ (r : Ty) (x : r.D), scT r = true → ∀ p ∈ q5 r (je r x), Sc p
  | .int k, x, h, c, hc => by simp [q5] at hc
  | .bool, x, h, c, hc => by simp [q5] at hc
  | .str, x, h, c, hc => by simp [q5] at hc
  | .sl _, x, h, c, hc => by simp [q5] at hc
  | .ref _, x, h, c, hc => by simp [q5] at hc
  | .arr n t, x, h, c, hc => by simp [q5] at hc
  | .nil, x, h, c, hc => by simp [q5] at hc
  | .st r, x, h, c, hc => by simp [q5] at hc
  | .tup r, x, h, c, hc => by simp [q5] at hc
  | .cons a r, x, h, c, hc => by
    simp only [scT, wb6] at h
    simp only [q5, je] at hc
    rw [wed (jn a x.1), wdp (jn a x.1)] at hc
    rcases wck.1 hc with rfl | hc
    · exact zz4 (jn a x.1) (zb3 a x.1 h.1)
    · exact zow r x.2 h.2 c hc
end
def rdV (G : EG) : (ts : List Ty) → List TS → Option (DL ts)
  | [], [] => some ()
  | [t], [x] => yn G t x
  | t :: u :: ts, x :: xs => match yn G t x with
    | none => none
    | some a => match rdV G (u :: ts) xs with
      | none => none
      | some b => some (a, b)
  | _, _ => none
theorem zt8 {G : EG} {H : PHeap} (hG : ∀ id, (G id).b.isSome = true → AgN H G id) : ∀ {ts : List Ty} {xs : List TS} {t : DL ts}, rdV G ts xs = some t → ViewL H (q8 xs) (pvs (vq ts t))
  | [], xs, t, h => by
    cases xs with
    | nil => simp only [q8]; exact ViewL.nil H
    | cons _ _ => simp [rdV] at h
  | [a], xs, t, h => by
    match xs, h with
    | [x], h =>
      simp only [rdV] at h
      simp only [q8]
      exact ViewL.cons (Ja hG _ _ _ h).1 (ViewL.nil H)
    | [], h => simp [rdV] at h
    | _ :: _ :: _, h => simp [rdV] at h
  | a :: u :: ts, xs, t, h => by
    cases xs with
    | nil => simp [rdV] at h
    | cons x xs =>
      simp only [rdV] at h
      split at h <;> try (cases h; done)
      rename_i p hp
      split at h <;> cases h
      rename_i q hq
      simp only [q8]
      exact ViewL.cons (Ja hG _ _ _ hp).1 (zt8 hG hq)
def zu4 (S : zuh) (E : EF) (G : EG) (c : Call) : Option SR := match zjg E c with
  | none => none
  | some (f, az) => match S f with
    | none => none
    | some x => match scT x.rt with
      | false => none
      | true => match zin G 1000 (V5 G (zb9 az)) [] with
        | none => none
        | some D => match rdV (J4 D G) x.ats az with
          | some t => some (.dat x.rt.D (x.g t) (fun y => .v ⟨x.rt, y⟩) D)
          | none => none
theorem zw5 {P : Program} {o : Oper} {E : EF} {G : EG} {S : zuh} (hS : Qh P S) {c : Call} {q : SR} (ho : o.op = .call c) (h : zu4 S E G c = some q) : SOk P o E G q := by
  unfold zu4 at h
  split at h <;> try (cases h; done)
  rename_i f az ht
  split at h <;> try (cases h; done)
  rename_i x hx
  split at h <;> try (cases h; done)
  rename_i hsc
  split at h <;> try (cases h; done)
  rename_i D hD
  split at h <;> cases h
  rename_i t hrd
  obtain ⟨hg, hc⟩ := hS f x hx
  refine SOk.dat fun r hr W F H hag => ?_
  have hv := zt8 (H := H) (zdj hag.hn) hrd
  simp only [TS.den]
  exact wbv ho (zbl ho hag ht) hg hv (hc t r hr) (zz4 (jn _ _) (zb3 _ _ hsc))
structure Prm where
  bd : Nat → Bool
  lit : Nat → Option LK
  zt : ZT
  zt2 : ZT
  zy : ZY
  S : zuh
def ztOf {α : Type} (pr : Prm) (l : List α) : ZT := match l with
  | [] => pr.zt
  | _ => pr.zt2
def zlb (o : Oper) : Nat := match o.dst with
  | some d => d
  | none => 0
def tySt : TS → Option Ty
  | .v ⟨.st r, _⟩ => some r
  | _ => none
def orT (a b : Option Ty) : Option Ty := match a with
  | some t => some t
  | none => b
def tyLf (P : Program) (t : TypeId) : Option Ty := match P.underlying t with
  | some (.int k) => some (.int k)
  | some .bool => some .bool
  | some .string => some .str
  | _ => none
def tyPs (P : Program) : List TypeId → Option Ty
  | [] => some .nil
  | t :: r => match tyLf P t with
    | some a => match tyPs P r with
      | some b => some (.cons a b)
      | none => none
    | none => none
def tySP (P : Program) (t : TypeId) : Option Ty := match P.underlying t with
  | some (.struct fs) => tyPs P (fs.toList.map (·.type))
  | _ => none
def zy9 (P : Program) (bd : Bool) (op : BinOp) (t : TypeId) (x y : Operand) (E : EF) (G : EG) : Option SR := match y with
  | .const (.slice none 0 0) => match Qx P t with
    | true => zzn op (evE E x)
    | false => none
  | .const (.pointer none) => match zwa P t with
    | true => z0l bd op G (evE E x)
    | false => none
  | .const .nilFunc => match P.underlying t with
    | some (.func _ _ _) => match evE E x with
      | .fn _ _ _ => match zgi op false with
        | some b => some (.now (.c (.bool b)) [])
        | none => none
      | .c .nilFunc => match zgi op true with
        | some b => some (.now (.c (.bool b)) [])
        | none => none
      | _ => none
    | _ => none
  | y => match ze5 P t y with
    | false => none
    | true => match P.underlying t with
      | some (.int k) => sInt bd k op (evE E x) (evE E y)
      | some .bool => zzb bd op (evE E x) (evE E y)
      | some .string => sStr bd op (evE E x) (evE E y)
      | some (.struct _) => match orT (orT (tySt (evE E x)) (tySt (evE E y))) (tySP P t) with
        | some r => sEqS bd (eqS P t) (P.eqGuardType P.depth t) op r E x y
        | none => none
      | some (.array n e) => match P.underlying e with
        | some (.int k) => match asz P e with
          | some (false, 1) => sEqA bd (P.eqGuardType P.depth t) op n k E x y
          | _ => none
        | _ => none
      | _ => none
def zuw (P : Program) (pr : Prm) (nid : Nat) (o : Oper) (c : Call) (E : EF) (G : EG) : Option SR := match c with
  | ⟨.builtin .len, ⟨[x]⟩, ⟨[t]⟩⟩ => match Qx P t with
    | true => zt6 (pr.bd (zlb o)) true G (evE E x)
    | false => match Yc P t with
      | true => zt6 (pr.bd (zlb o)) false G (evE E x)
      | false => none
  | ⟨.builtin .append, ⟨[s, x]⟩, ⟨[t, t']⟩⟩ => match Nat.beq t t' with
    | true => sApp (q6 P t) o G nid (evE E s) (evE E x)
    | false => none
  | ⟨.builtin .min, ⟨[x, y]⟩, _⟩ => z38 (pr.bd (zlb o)) false (evE E x) (evE E y)
  | ⟨.builtin .max, ⟨[x, y]⟩, _⟩ => z38 (pr.bd (zlb o)) true (evE E x) (evE E y)
  | ⟨.value f, as', ts⟩ => match zz9 pr.S E ⟨.value f, as', ts⟩ with
    | some q => some q
    | none => zu4 pr.S E G ⟨.value f, as', ts⟩
  | _ => none
abbrev Sy1 := Nat → Nat → Nat → Oper → EF → EG → Option SR
def zv8 (P : Program) (pr : Prm) : Sy1 := fun ctx nid site o E G => match o.op with
  | .move x => some (.now (evE E x) [])
  | .assign x => some (.now (evE E x) [])
  | .pick c x y => z09 (pr.bd (zlb o)) (evE E c) (evE E x) (evE E y)
  | .binOp op t x y _ => zy9 P (pr.bd (zlb o)) op t x y E G
  | .unOp .not _ x => sNot (pr.bd (zlb o)) (evE E x)
  | .convert s d x => match (zfb P s).isSome with
    | true => match zfb P d with
      | some k => z4z (pr.bd (zlb o)) k (evE E x)
      | none => none
    | false => none
  | .extract x i => sExt (evE E x) i
  | .call c => zuw P pr nid o c E G
  | .indexAddr t x i => sIdx (esz P t) (arr P t) G (evE E x) (evE E i)
  | .index t x i => match Yc P t with
    | true => z4q (evE E x) (evE E i)
    | false => none
  | .fieldAddr s x f => match fof P s f with
    | some (fo, ft) => match asz P ft with
      | some (ag, k) => sFld fo k ag G (evE E x)
      | none => none
    | none => none
  | .field s x f => match fof P s f with
    | some (fo, ft) => match asz P ft with
      | some (ag, k) => sFie fo k ag (evE E x)
      | none => none
    | none => none
  | .load t x => match asz P t with
    | some (ag, k) => sLd ag k G (evE E x)
    | none => none
  | .store t x y => match asz P t with
    | some (ag, k) => sSto ag k G (evE E x) (evE E y)
    | none => none
  | .slice t x lo hi none => sSli (esz P t) (Yc P t) (evE E x) (lo.map (evE E)) (hi.map (evE E))
  | .build t parts => sBld (ztOf pr parts.toList) (arr P t).isSome (zf1 P t) t G (parts.toList.map fun x => (x.1, evE E x.2))
  | .makeFunc f a b => some (.now (.fn f (a.toList.map (evE E)) (b.toList.map (evE E))) [])
  | .nilCheck x => zzs G (evE E x)
  | .alloc t => zu8 pr.zt t o G nid
  | .box t x => sBox t o G nid (evE E x)
  | .makeSlice t x y => sMk pr.zy (q6 P t) o G nid (zg4 x y) (evE E x)
  | .buildSlice t len parts => sLit (pr.lit (zlb o)) (q6 P t) o G nid len (parts.toList.map fun x => (x.1, evE E x.2))
  | _ => none
section
variable {P : Program} {pr : Prm} {o : Oper} {E : EF} {G : EG}
theorem zy7 {bd : Bool} {op : BinOp} {t t' : TypeId} {x y : Operand} {q : SR} (ho : o.op = .binOp op t x y t') (h : zy9 P bd op t x y E G = some q) : SOk P o E G q := by
  unfold zy9 at h
  split at h
  · split at h <;> try (cases h; done)
    rename_i ht
    exact z0w ho ht h
  · split at h <;> try (cases h; done)
    rename_i ht
    exact z1k ho ht h
  · split at h <;> try (cases h; done)
    rename_i A B C hu
    split at h <;> try (cases h; done)
    · rename_i f a b hx
      split at h <;> cases h
      rename_i b' hb
      refine SOk.now fun W F H hag => (wbm ho hu (.inl ⟨f, q8 a, q8 b, ?_, rfl⟩) hb : PQ P W o F H (.u (.bool b')))
      rw [hag.ev (by rw [ho]; simp [Op.operands]), hx]; simp only [TS.den]
    · rename_i hx
      split at h <;> cases h
      rename_i b' hb
      refine SOk.now fun W F H hag => (wbm ho hu (.inr ⟨?_, rfl⟩) hb : PQ P W o F H (.u (.bool b')))
      rw [hag.ev (by rw [ho]; simp [Op.operands]), hx]; simp only [TS.den]; rfl
  · split at h <;> try (cases h; done)
    rename_i hy
    split at h
    · exact z2f ho hy h
    · rename_i hu; exact z0a hu ho hy h
    · exact z3u ho hy h
    · split at h <;> try (cases h; done)
      exact z3c (d := 0) ho h
    · rename_i hu
      split at h <;> try (cases h; done)
      rename_i hD
      split at h <;> try (cases h; done)
      rename_i hs
      exact z24 ho hu hD hs h
    · cases h
theorem zxf (hS : Qh P pr.S) {nid : Nat} {c : Call} {q : SR} (ho : o.op = .call c) (h : zuw P pr nid o c E G = some q) : SOk P o E G q := by
  unfold zuw at h
  split at h
  · rename_i x t
    split at h
    · rename_i ht
      exact zwr ho (fun _ => ht) (fun e => by cases e) h
    · split at h <;> try (cases h; done)
      rename_i ht
      exact zwr ho (fun e => by cases e) (fun _ => ht) h
  · rename_i s x t t'
    split at h <;> try (cases h; done)
    rename_i ht
    have := wb2 ht
    subst this
    exact z3h ho h
  · exact zwl (mx := false) ho h
  · exact zwl (mx := true) ho h
  · split at h
    · rename_i q' hq'; cases h; exact z0o hS ho hq'
    · exact zw5 hS ho h
  · cases h
theorem zs8 (hS : Qh P pr.S) (hzt : zai P pr.zt) (hzt2 : zai P pr.zt2) : ∀ ctx nid site o E G q, zv8 P pr ctx nid site o E G = some q → SOk P o E G q := fun ctx nid site o E G q h => by
  unfold zv8 at h
  split at h
  · rename_i x ho; cases h; exact zsw (.inl ho)
  · rename_i x ho; cases h; exact zsw (.inr ho)
  · rename_i ho; exact z1d ho h
  · rename_i ho; exact zy7 ho h
  · rename_i ho; exact z3d ho h
  · rename_i ho
    split at h <;> try (cases h; done)
    rename_i h1
    split at h <;> try (cases h; done)
    rename_i h2
    exact z0s ho h1 h2 h
  · rename_i ho; exact z2d ho h
  · rename_i ho; exact zxf hS ho h
  · rename_i ho; exact z4e ho h
  · rename_i ho
    split at h <;> try (cases h; done)
    rename_i h1
    exact zzp ho h1 h
  · rename_i ho
    split at h <;> try (cases h; done)
    rename_i h1
    split at h <;> try (cases h; done)
    rename_i h2
    exact z4d ho h1 h2 h
  · rename_i ho
    split at h <;> try (cases h; done)
    rename_i h1
    split at h <;> try (cases h; done)
    rename_i h2
    exact z3x ho h1 h2 h
  · rename_i ho
    split at h <;> try (cases h; done)
    rename_i h2
    exact sLd_ok ho h2 h
  · rename_i ho
    split at h <;> try (cases h; done)
    rename_i h2
    exact z20 ho h2 h
  · rename_i ho; exact z4g ho h
  · rename_i ho; refine z33 ?_ ho h; unfold ztOf; split <;> assumption
  · rename_i ho; cases h; exact z3b ho
  · rename_i ho; exact zzo ho h
  · rename_i ho; exact zxq hzt ho h
  · rename_i ho; exact z2h ho h
  · rename_i ho; exact sMk_ok ho h
  · rename_i ho; exact z32 ho h
  · cases h
end
def w64 (z : Int) : Int := IntKind.i64.wrap z
def wr (k : IntKind) (z : Int) : Int := k.wrap z
theorem zr4 {α : Type} {f a : Nat} {x : α} {y z : Option α} {G : Prop} (h : cond (Nat.beq f a) y z = some x) (h1 : f = a → y = some x → G) (h2 : z = some x → G) : G := by
  cases hb : Nat.beq f a
  · rw [hb] at h; exact h2 h
  · rw [hb] at h; exact h1 (wb2 hb) h
theorem wao {ps qs : List PV} (h : ps = qs) : RefL ps qs := h ▸ RefL.refl ps
abbrev IdM := Nm → Nat → Option (Nm × Nat)
mutual
def v7 (φ : IdM) : PV → PV
  | .ps id ver => match φ id ver with
    | some x => .ps x.1 x.2
    | none => .unk
  | .qs id off k ver => match φ id ver with
    | some x => .qs x.1 off k x.2
    | none => .unk
  | .pp id off ver => match φ id ver with
    | some x => .pp x.1 off x.2
    | none => .unk
  | .fn f a b => .fn f (Y9 φ a) (Y9 φ b)
  | .agg xs => .agg (Y9 φ xs)
  | .tup xs => .tup (Y9 φ xs)
  | .u v => .u v
  | .unk => .unk
  | .sl k xs => .sl k xs
  | .fr t k xs => .fr t k xs
  | .rp xs => .rp xs
def Y9 (φ : IdM) : List PV → List PV
  | [] => []
  | x :: xs => v7 φ x :: Y9 φ xs
end
theorem q4 (φ : IdM) : ∀ xs : List PV, Y9 φ xs = xs.map (v7 φ)
  | [] => by simp only [Y9, wdh]
  | x :: xs => by simp only [Y9, wcj, q4 φ xs]
theorem Y8 {φ : IdM} {p : PV} (h : NoP p) : v7 φ p = p := by
  induction h with
  | u v => simp only [v7]
  | agg cs h ih => simp only [v7, q4]; rw [wde ih, List.map_id']
  | tup cs h ih => simp only [v7, q4]; rw [wde ih, List.map_id']
  | sl k xs h ih => simp only [v7]
  | fr t k xs h ih => simp only [v7]
  | rp xs h ih => simp only [v7]
  | fn f a b ha hb iha ihb => simp only [v7, q4]; rw [wde iha, wde ihb, List.map_id', List.map_id']
theorem zu3 (φ : IdM) (p : PV) : (v7 φ p).cells = p.cells.map (v7 φ) := by
  cases p with
  | ps id ver => simp only [v7, PV.cells, wcj, wdh]; cases φ id ver <;> rfl
  | qs id off k ver => simp only [v7, PV.cells, wcj, wdh]; cases φ id ver <;> rfl
  | pp id off ver => simp only [v7, PV.cells, wcj, wdh]; cases φ id ver <;> rfl
  | _ => simp only [v7, PV.cells, wcj, wdh, q4]
section
variable {Z : ZM} {H H1 H2 : PHeap} {V V1 V2 : Nm → Value} {w w0 : World} {φ : IdM}
theorem zdk {S : Nm → Nat → Prop} {p : PV} {v : Value} (h : Rp Z H V w p v) (hf : NmAll S p)
    (hz : ∀ c, c < w.heap.size → ¬ PZ Z H V c → ¬ PZ Z H1 V1 c)
    (hk : ∀ id ver x, φ id ver = some x → ver ≤ (H id).ver → x.2 ≤ (H1 x.1).ver ∧ ((H1 x.1).body.isSome = true → (H1 x.1).ver = x.2 → (H id).body.isSome = true ∧ (H id).ver = ver ∧ V1 x.1 = V id)) : Rp Z H1 V1 w (v7 φ p) v := by
  induction hf generalizing v with
  | noP hn => rw [Y8 hn]; exact Rp.noP h hn hz
  | unk => simp only [v7]; exact .unk v
  | ps _ =>
    simp only [v7]
    split
    · rename_i x hx
      cases h with
      | ps id ver _ hv h =>
        obtain ⟨k1, k2⟩ := hk _ _ x hx hv
        exact .ps _ _ v k1 fun g1 g2 => by obtain ⟨a, b, c⟩ := k2 g1 g2; rw [c]; exact h a b
    · exact .unk v
  | qs _ =>
    simp only [v7]
    split
    · rename_i x hx
      cases h with
      | qs id off k ver _ hv h =>
        obtain ⟨k1, k2⟩ := hk _ _ x hx hv
        exact .qs _ _ _ _ v k1 fun g1 g2 => by obtain ⟨a, b, c⟩ := k2 g1 g2; rw [c]; exact h a b
    · exact .unk v
  | pp _ =>
    simp only [v7]
    split
    · rename_i x hx
      cases h with
      | pp id off ver _ hv h =>
        obtain ⟨k1, k2⟩ := hk _ _ x hx hv
        exact .pp _ _ _ v k1 fun g1 g2 => by obtain ⟨a, b, c⟩ := k2 g1 g2; rw [c]; exact h a b
    · exact .unk v
  | agg _ ih =>
    simp only [v7, q4]
    cases h with
    | agg _ vs hl h =>
      refine .agg _ vs (by simp [hl]) fun i p v h1 h2 => ?_
      rw [wb9] at h1
      obtain ⟨q, hq, rfl⟩ := wca.1 h1
      exact ih q (wb8 hq) (h i q v hq h2)
  | tup _ ih =>
    simp only [v7, q4]
    cases h with
    | tup _ vs hl h =>
      refine .tup _ vs (by simp [hl]) fun i p v h1 h2 => ?_
      rw [wb9] at h1
      obtain ⟨q, hq, rfl⟩ := wca.1 h1
      exact ih q (wb8 hq) (h i q v hq h2)
  | fn _ _ iha ihb =>
    simp only [v7, q4]
    cases h with
    | fn _ _ _ va vb hla hlb ha hb =>
      refine .fn _ _ _ va vb (by simp [hla]) (by simp [hlb]) (fun i p v h1 h2 => ?_) fun i p v h1 h2 => ?_
      · rw [wb9] at h1
        obtain ⟨q, hq, rfl⟩ := wca.1 h1
        exact iha q (wb8 hq) (ha i q v hq h2)
      · rw [wb9] at h1
        obtain ⟨q, hq, rfl⟩ := wca.1 h1
        exact ihb q (wb8 hq) (hb i q v hq h2)
theorem zkz {α : Type} {xs : List α} {p : α} (h : p ∈ xs) : ∃ i : Nat, xs[i]? = some p := by
  obtain ⟨i, hi, e⟩ := List.mem_iff_getElem.1 h
  exact ⟨i, by rw [wb5 hi, e]⟩
theorem NmAll.past {S : Nm → Nat → Prop} {p : PV} {v : Value} (h : Rp Z H V w p v) (hf : NmAll S p) : NmAll (fun i ver => S i ver ∧ ver ≤ (H i).ver) p := by
  induction hf generalizing v with
  | noP hn => exact .noP hn
  | unk => exact .unk
  | ps hs => cases h with | ps _ _ _ hv _ => exact .ps ⟨hs, hv⟩
  | qs hs => cases h with | qs _ _ _ _ _ hv _ => exact .qs ⟨hs, hv⟩
  | pp hs => cases h with | pp _ _ _ _ hv _ => exact .pp ⟨hs, hv⟩
  | agg _ ih =>
    cases h with
    | agg cs vs hl h =>
      refine .agg fun p hp => ?_
      obtain ⟨i, hi⟩ := zkz hp
      have hlt : i < vs.size := by rw [← hl]; exact (wb3.1 hi).1
      exact ih p hp (h i p _ hi (wcn hlt))
  | tup _ ih =>
    cases h with
    | tup cs vs hl h =>
      refine .tup fun p hp => ?_
      obtain ⟨i, hi⟩ := zkz hp
      have hlt : i < vs.size := by rw [← hl]; exact (wb3.1 hi).1
      exact ih p hp (h i p _ hi (wcn hlt))
  | fn _ _ ih1 ih2 =>
    cases h with
    | fn _ _ _ va vb hla hlb ha hb =>
      refine .fn (fun p hp => ?_) fun p hp => ?_
      · obtain ⟨i, hi⟩ := zkz hp
        have hlt : i < va.size := by rw [← hla]; exact (wb3.1 hi).1
        exact ih1 p hp (ha i p _ hi (wcn hlt))
      · obtain ⟨i, hi⟩ := zkz hp
        have hlt : i < vb.size := by rw [← hlb]; exact (wb3.1 hi).1
        exact ih2 p hp (hb i p _ hi (wcn hlt))
def Back (S : Nm → Nat → Prop) (φ : IdM) (H1 H2 : PHeap) (V1 V2 : Nm → Value) : Prop := ∀ id ver, S id ver → ver ≤ (H2 id).ver ∧ ((H2 id).body.isSome = true → (H2 id).ver = ver → ∃ x, φ id ver = some x ∧ (H1 x.1).body.isSome = true ∧ (H1 x.1).ver = x.2 ∧ V2 id = V1 x.1)
theorem z0e {S : Nm → Nat → Prop} {p : PV} {v : Value} (hf : NmAll S p) (h : Rp Z H1 V1 w (v7 φ p) v) (hz : ∀ c, c < w.heap.size → ¬ PZ Z H1 V1 c → ¬ PZ Z H2 V2 c) (hk : Back S φ H1 H2 V1 V2) : Rp Z H2 V2 w p v := by
  induction hf generalizing v with
  | noP hn => rw [Y8 hn] at h; exact Rp.noP h hn hz
  | unk => exact .unk v
  | ps hv =>
    obtain ⟨k1, k2⟩ := hk _ _ hv
    refine .ps _ _ v k1 fun g1 g2 => ?_
    obtain ⟨x, hx, a, b, c⟩ := k2 g1 g2
    simp only [v7, hx] at h
    cases h with | ps _ _ _ _ h => rw [c]; exact h a b
  | qs hv =>
    obtain ⟨k1, k2⟩ := hk _ _ hv
    refine .qs _ _ _ _ v k1 fun g1 g2 => ?_
    obtain ⟨x, hx, a, b, c⟩ := k2 g1 g2
    simp only [v7, hx] at h
    cases h with | qs _ _ _ _ _ _ h => rw [c]; exact h a b
  | pp hv =>
    obtain ⟨k1, k2⟩ := hk _ _ hv
    refine .pp _ _ _ v k1 fun g1 g2 => ?_
    obtain ⟨x, hx, a, b, c⟩ := k2 g1 g2
    simp only [v7, hx] at h
    cases h with | pp _ _ _ _ _ h => rw [c]; exact h a b
  | fn hx hy ih1 ih2 =>
    simp only [v7, q4] at h
    cases h with
    | fn _ _ _ va vb hla hlb ha hb =>
      simp only [wcs] at hla hlb
      refine .fn _ _ _ va vb hla hlb (fun i p u h1 h2 => ih1 p (wb8 h1) (ha i _ u (by rw [wb9, h1]; rfl) h2)) fun i p u h1 h2 => ih2 p (wb8 h1) (hb i _ u (by rw [wb9, h1]; rfl) h2)
  | agg hx ih =>
    simp only [v7, q4] at h
    cases h with
    | agg _ vs hl h =>
      simp only [wcs] at hl
      exact .agg _ vs hl fun i p u h1 h2 => ih p (wb8 h1) (h i _ u (by rw [wb9, h1]; rfl) h2)
  | tup hx ih =>
    simp only [v7, q4] at h
    cases h with
    | tup _ vs hl h =>
      simp only [wcs] at hl
      exact .tup _ vs hl fun i p u h1 h2 => ih p (wb8 h1) (h i _ u (by rw [wb9, h1]; rfl) h2)
theorem zl4 {cs : List PV} {vs : List Value} (h : RpL Z H V w cs vs) (hm : ∀ c ∈ cs, ∀ v, Rp Z H V w c v → Rp Z H1 V1 w (v7 φ c) v) : RpL Z H1 V1 w (Y9 φ cs) vs := ⟨by rw [q4, wcs]; exact h.1, fun i p v h1 h2 => by
  rw [q4, wb9] at h1
  obtain ⟨q, hq, rfl⟩ := wca.1 h1
  exact hm q (wb8 hq) v (h.2 i q v hq h2)⟩
theorem z21 {S : Nm → Nat → Prop} {cs : List PV} {vs : List Value} (hf : ∀ c ∈ cs, NmAll S c) (h : RpL Z H1 V1 w (Y9 φ cs) vs) (hz : ∀ c, c < w.heap.size → ¬ PZ Z H1 V1 c → ¬ PZ Z H2 V2 c) (hk : Back S φ H1 H2 V1 V2) : RpL Z H2 V2 w cs vs := ⟨by have := h.1; rw [q4, wcs] at this; exact this, fun i p v h1 h2 => by
  refine z0e (hf p (wb8 h1)) (h.2 i _ v ?_ h2) hz hk
  rw [q4, wb9, h1]; rfl⟩
end
abbrev IdT := Bool → Nat → Nat → Option (Nat × Nat)
mutual
def Zt (μ : IdT) : TS → TS
  | .own id ver => match μ false id ver with
    | some x => .own x.1 x.2
    | none => .dead
  | .q id k off ver => match μ false id ver with
    | some x => .q x.1 k off x.2
    | none => .dead
  | .pt id off ver => match μ false id ver with
    | some x => .pt x.1 off x.2
    | none => .dead
  | .elt id k i off ver => match μ false id ver with
    | some x => .elt x.1 k i off x.2
    | none => .dead
  | .kid id p v => match μ true id v with
    | some x => .kid x.1 p x.2
    | none => .dead
  | .kel id p k i off v => match μ true id v with
    | some x => .kel x.1 p k i off x.2
    | none => .dead
  | .fn f a b => .fn f (z7 μ a) (z7 μ b)
  | .agg xs => .agg (z7 μ xs)
  | .tup xs => .tup (z7 μ xs)
  | .v d => .v d
  | .c v => .c v
  | .rd d => .rd d
  | _ => .dead
def z7 (μ : IdT) : List TS → List TS
  | [] => []
  | x :: xs => Zt μ x :: z7 μ xs
end
def BD.sane : BD → Bool
  | .rows _ _ _ _ _ h => h.isNone
  | .mrows _ _ _ _ _ h => h.isNone
  | .iter _ _ _ _ => false
  | _ => true
def J2 (μ : IdT) (kv : Nat) : BD → BD
  | .rowx tid k xs => .rowx tid k (z7 μ xs)
  | .box tid xs => .box tid (z7 μ xs)
  | .rows tid it t l _ h => .rows tid it t l kv h
  | .mrows kt it t es _ h => .mrows kt it t es kv h
  | b => b
def Zk (μ : IdT) (kv : Nat) (o : Option BD) : Option BD := match o with
  | some b => match b.sane with
    | true => some (J2 μ kv b)
    | false => none
  | none => none
theorem V7 {μ : IdT} {kv : Nat} {o : Option BD} {b : BD} (h : Zk μ kv o = some b) : ∃ b0, o = some b0 ∧ b0.sane = true ∧ b = J2 μ kv b0 := by
  unfold Zk at h
  split at h <;> try (cases h; done)
  split at h <;> cases h
  exact ⟨_, rfl, by assumption, rfl⟩
theorem zk2 (μ : IdT) (kv : Nat) (b : BD) (j : Nat) : (J2 μ kv b).ch j = b.ch j := by cases b <;> rfl
theorem zf7 (μ : IdT) (kv : Nat) (b : BD) : (J2 μ kv b).flat = true ∧ (J2 μ kv b).kv = 0 ∨ (J2 μ kv b).flat = false ∧ (J2 μ kv b).kv = kv := by cases b <;> simp [J2, BD.flat, BD.kv]
theorem zh6 {μ : IdT} {ver : Nat} (o : Option BD) : (⟨ver, Zk μ 0 o⟩ : GB).cv = ver := by
  unfold GB.cv
  simp only
  split
  · rename_i b hb
    obtain ⟨b0, _, _, rfl⟩ := V7 hb
    rcases zf7 μ 0 b0 with ⟨_, h⟩ | ⟨_, h⟩ <;> rw [h] <;> rfl
  · rfl
def Z8 (μ : IdT) : IdM := fun y ver => match y with
  | .o i => (μ false i ver).map fun x => (.o x.1, x.2)
  | .c i j => (μ true i ver).map fun x => (.c x.1 j, x.2)
  | .r _ => none
theorem Zc (μ : IdT) (i ver : Nat) : Z8 μ (.o i) ver = (μ false i ver).map fun x => (.o x.1, x.2) := rfl
mutual
theorem zmz (μ : IdT) : ∀ s : TS, (Zt μ s).den = v7 (Z8 μ) s.den
  | .v d => by simp only [Zt, TS.den]; exact (Y8 (Qw _ _)).symm
  | .c v => by simp only [Zt, TS.den]; exact (Y8 (zbi v)).symm
  | .own id ver => by simp only [Zt, TS.den, v7, Zc]; cases μ false id ver <;> simp [TS.den]
  | .q id k off ver => by simp only [Zt, TS.den, v7, Zc]; cases μ false id ver <;> simp [TS.den]
  | .pt id off ver => by simp only [Zt, TS.den, v7, Zc]; cases μ false id ver <;> simp [TS.den]
  | .elt id k i off ver => by simp only [Zt, TS.den, v7, Zc]; cases μ false id ver <;> simp [TS.den]
  | .rd d => by simp only [Zt, TS.den]; exact (Y8 (.rp _ (q7 _ _))).symm
  | .kid id p v => by simp only [Zt, TS.den, v7, Z8]; cases μ true id v <;> simp [TS.den]
  | .kel id p k i off v => by simp only [Zt, TS.den, v7, Z8]; cases μ true id v <;> simp [TS.den]
  | .dead => by simp only [Zt, TS.den, v7]
  | .fn f a b => by simp only [Zt, TS.den, v7, zaz μ a, zaz μ b, q4]
  | .agg xs => by simp only [Zt, TS.den, v7, ze2 μ xs, q4]
  | .tup xs => by simp only [Zt, TS.den, v7, zaz μ xs, q4]
theorem zaz (μ : IdT) : ∀ xs : List TS, q8 (z7 μ xs) = (q8 xs).map (v7 (Z8 μ))
  | [] => by simp only [z7, q8, wdh]
  | x :: xs => by simp only [z7, q8, wcj, zmz μ x, zaz μ xs]
theorem ze2 (μ : IdT) : ∀ xs : List TS, jo (z7 μ xs) = (jo xs).map (v7 (Z8 μ))
  | [] => by simp only [z7, jo, wdh]
  | x :: xs => by simp only [z7, jo, wdu, zmz μ x, ze2 μ xs, zu3]
end
theorem zhl (μ : IdT) : ∀ xs : List TS, (z7 μ xs).length = xs.length
  | [] => by simp only [z7]
  | x :: xs => by simp only [z7, wc1, zhl μ xs]
def zga (φm : IdM) : PBody → PBody
  | .row t k n cs => .row t k n (Y9 φm cs)
  | .box t cs => .box t (Y9 φm cs)
  | .raw p cs φ => .raw p (Y9 φm cs) φ
  | .que t k n cs => .que t k n (Y9 φm cs)
theorem zet (φ : IdM) (bd : PBody) : (zga φ bd).cs = Y9 φ bd.cs := by cases bd <;> rfl
theorem zna {φ : IdM} {bd : PBody} {w : World} {m : Nat} {v : Value} {vs : List Value} : (zga φ bd).Is w m v vs ↔ bd.Is w m v vs := by cases bd <;> exact Iff.rfl
def zc5 (φ : IdM) (x : zd4) : zd4 := ⟨x.ver, x.body.map (zga φ)⟩
def zje : List Nat → Nat → Nat → Option Nat
  | [], _, _ => none
  | a :: r, i, j => match Nat.beq a i with
    | true => some j
    | false => zje r i (j + 1)
theorem zdw : ∀ {L : List Nat} {i j X : Nat}, zje L i j = some X → ∃ m, X = j + m ∧ L[m]? = some i
  | [], i, j, X, h => by cases h
  | a :: r, i, j, X, h => by
    simp only [zje] at h
    split at h
    · rename_i hb
      cases h
      exact ⟨0, rfl, by rw [wdz, ju hb]⟩
    · obtain ⟨m, h1, h2⟩ := zdw h
      exact ⟨m + 1, by omega, by rw [wdy]; exact h2⟩
theorem zdx : ∀ {L : List Nat} {i j : Nat}, zje L i j = none → i ∉ L
  | [], i, j, h => by simp
  | a :: r, i, j, h => by
    simp only [zje] at h
    split at h
    · cases h
    · rename_i hb
      simp only [wck, not_or]
      refine ⟨fun e => ?_, zdx h⟩
      subst e; rw [wdm] at hb; cases hb
theorem zgc {L : List Nat} (hn : L.Nodup) {X i : Nat} (h : L[X]? = some i) : zje L i 0 = some X := by
  cases hp : zje L i 0 with
  | none => exact absurd (wb8 h) (zdx hp)
  | some Y =>
    obtain ⟨m, rfl, h2⟩ := zdw hp
    have h1 := (wb3.1 h)
    have h3 := (wb3.1 h2)
    have := (List.getElem_inj (h₀ := h1.1) (h₁ := h3.1) hn).1 (by rw [h1.2, h3.2])
    simp [this]
def GB.at (x : GB) (c : Bool) : Nat := match c with
  | true => x.cv
  | false => x.ver
def mu1 (L : List Nat) (lim : Nat) (G : EG) : IdT := fun c i ver => match zje L i 0 with
  | some X => match Nat.blt X lim && Nat.beq ver ((G i).at c) with
    | true => some (X, 1)
    | false => none
  | none => none
theorem zsm {L : List Nat} {lim : Nat} {G : EG} {c : Bool} {i ver : Nat} {x : Nat × Nat} (h : mu1 L lim G c i ver = some x) : L[x.1]? = some i ∧ x.1 < lim ∧ ver = (G i).at c ∧ x.2 = 1 := by
  unfold mu1 at h
  split at h <;> try (cases h; done)
  rename_i X hX
  split at h <;> cases h
  rename_i hb
  simp only [wb6, web] at hb
  obtain ⟨m, h1, h2⟩ := zdw hX
  exact ⟨by rw [h1, wcx]; exact h2, hb.1, ju hb.2, rfl⟩
def Yr (L : List Nat) (y : Nm) : Bool := match y.rt with
  | some i => (zje L i 0).isSome
  | none => false
def zzu (μ : IdT) : IdT := fun c i ver => match c with
  | true => none
  | false => μ false i ver
theorem zkv {μ : IdT} {y : Nm} {ver : Nat} {x : Nm × Nat} (h : Z8 (zzu μ) y ver = some x) : Z8 μ y ver = some x ∧ ∃ i, y = .o i := by
  cases y with
  | o i => exact ⟨h, i, rfl⟩
  | c i j => cases h
  | r _ => cases h
def phG (L : List Nat) (b : Nat) (G : EG) : IdM := fun y ver => match Yr L y with
  | true => Z8 (zzu (mu1 L b G)) y ver
  | false => some (.r y, ver)
def inG (L : List Nat) (G : EG) : EG := fun X => match L[X]? with
  | some i => ⟨1, Zk (mu1 L L.length G) 0 (G i).b⟩
  | none => ⟨0, none⟩
def inR (L : List Nat) (b : Nat) (G : EG) (H : PHeap) : PHeap := fun y => match Yr L y with
  | true => ⟨0, none⟩
  | false => zc5 (phG L b G) (H y)
theorem zeo {L : List Nat} {y : Nm} {i : Nat} (hy : y.rt = some i) (h : i ∈ L) : Yr L y = true := by
  unfold Yr
  rw [hy]
  simp only
  cases hp : zje L i 0 with
  | none => exact absurd h (zdx hp)
  | some X => rfl
theorem zoi {L : List Nat} {lim : Nat} {G : EG} {y : Nm} {ver : Nat} {x : Nm × Nat} (h : Z8 (mu1 L lim G) y ver = some x) : ∃ X i : Nat, (y = .o i ∧ x = (.o X, 1) ∧ ver = (G i).ver ∨ ∃ j, y = .c i j ∧ x = (.c X j, 1) ∧ ver = (G i).cv) ∧ L[X]? = some i ∧ X < lim := by
  unfold Z8 at h
  split at h <;> try (cases h; done)
  · obtain ⟨z, hz, rfl⟩ := wca.1 h
    obtain ⟨h1, h2, h3, h4⟩ := zsm hz
    exact ⟨z.1, _, .inl ⟨rfl, by rw [h4], h3⟩, h1, h2⟩
  · obtain ⟨z, hz, rfl⟩ := wca.1 h
    obtain ⟨h1, h2, h3, h4⟩ := zsm hz
    exact ⟨z.1, _, .inr ⟨_, rfl, by rw [h4], h3⟩, h1, h2⟩
def _root_.Go.Proofs.YtiafpechgjopfaaGreatDoor.L.Nm.re : Nm → Nat → Nm
  | .o _, X => .o X
  | .c _ j, X => .c X j
  | .r y, _ => .r y
theorem zsb {Z : ZM} {H1 H2 : PHeap} {V1 V2 : Nm → Value} {w : World} {μ : IdT} (hm : ∀ p v, Fl p → Rp Z H1 V1 w p v → Rp Z H2 V2 w (v7 (Z8 μ) p) v) {b0 : BD} {i X m kv v1 v2 : Nat} (hs : b0.sane = true) (hk : ∀ j v, Rp Z H1 V1 w (.ps (.c i j) v1) v → Rp Z H2 V2 w (.ps (.c X j) v2) v) {v : Value} {vs : List Value} (h1 : (b0.den i v1).Is w m v vs) (h2 : RpL Z H1 V1 w (b0.den i v1).cs vs) : ((J2 μ kv b0).den X v2).Is w m v vs ∧ RpL Z H2 V2 w ((J2 μ kv b0).den X v2).cs vs := by
  have flat : ∀ {t : Ty} {l : List t.D} {vs}, RpL Z H1 V1 w (l.flatMap (je t)) vs → RpL Z H2 V2 w (l.flatMap (je t)) vs := fun {t l vs} h => wae h fun c hc v hv => by
    obtain ⟨x, _, hx⟩ := wcu.1 hc
    have hn := q7 t x c hx
    have := hm c v (.noP hn) hv
    rwa [Y8 hn] at this
  have kids : ∀ {n : Nat} {vs}, RpL Z H1 V1 w ((range n).map (Hole.cell i v1 none)) vs → RpL Z H2 V2 w ((range n).map (Hole.cell X v2 none)) vs := fun {n vs} hv => by
    refine ⟨by have := hv.1; simpa using this, fun j p v h1 h2 => ?_⟩
    rw [wb9] at h1
    obtain ⟨j', hj, rfl⟩ := wca.1 h1
    exact hk j' v (hv.2 j _ v (by rw [wb9, hj]; rfl) h2)
  have parts : ∀ {xs : List TS} {vs}, RpL Z H1 V1 w (jo xs) vs → RpL Z H2 V2 w (jo (z7 μ xs)) vs := fun {xs vs} h => by
    rw [ze2, ← q4]
    exact zl4 h fun c hc v hv => hm c v (zfa xs c hc) hv
  cases b0 with
  | row tid t l => exact ⟨h1, flat h2⟩
  | rowx tid k xs => exact ⟨by simp only [J2, BD.den, zhl]; exact h1, parts h2⟩
  | box tid xs => exact ⟨h1, parts h2⟩
  | obj k x =>
    obtain ⟨p, φ, e⟩ := k.den_raw x
    simp only [J2, BD.den, e] at h1 h2 ⊢
    exact ⟨h1, h2.1, fun i p v h1 => by simp [PBody.cs] at h1⟩
  | que tid t l => exact ⟨h1, flat h2⟩
  | rows tid it t l _ h => cases h with
    | none => exact ⟨h1, kids h2⟩
    | some x => cases hs
  | mrows kt it t es _ h => cases h with
    | none => exact ⟨h1, kids h2⟩
    | some x => cases hs
  | iter mid mver n seen => cases hs
section
variable {P : Program} {W : Env} {n : Nat} {L : List Nat} {b : Nat} {G : EG} {H : PHeap} {V : Nm → Value} {w : World} {F : PFrame}
def inS (L : List Nat) : Nm → Nm
  | .o X => .o ((L[X]?).getD 0)
  | .c X j => .c ((L[X]?).getD 0) j
  | .r y => y
theorem zts {X : Nat} {nb : BD} (h : (inG L G X).b = some nb) : ∃ i b0, L[X]? = some i ∧ (G i).b = some b0 ∧ b0.sane = true ∧ nb = J2 (mu1 L L.length G) 0 b0 := by
  unfold inG at h
  split at h <;> try (cases h; done)
  obtain ⟨b0, h1, h2, h3⟩ := V7 h
  exact ⟨_, b0, by assumption, h1, h2, h3⟩
theorem zut {X i : Nat} (h : L[X]? = some i) : (inG L G X).cv = 1 := by
  unfold inG
  rw [h]
  exact zh6 _
theorem zkk (hag : ∀ i ∈ L, AgN H G i) {z : Nm} {bd : PBody} (h : (qd (inG L G) (inR L b G H) z).body = some bd) :
    (∃ X i b0, L[X]? = some i ∧ (G i).b = some b0 ∧ b0.sane = true ∧ ((z = .o X ∧ inS L z = .o i ∧ bd = (J2 (mu1 L L.length G) 0 b0).den X 1) ∨ ∃ j, z = .c X j ∧ inS L z = .c i j ∧ b0.ch j = some bd)) ∨ ∃ y bd0, z = .r y ∧ Yr L y = false ∧ (H y).body = some bd0 ∧ bd = zga (phG L b G) bd0 := by
  cases z with
  | o X =>
    obtain ⟨nb, h1, rfl⟩ := wca.1 (show (inG L G X).b.map (BD.den X (inG L G X).cv) = some bd from h)
    obtain ⟨i, b0, h2, h3, h4, rfl⟩ := zts h1
    exact .inl ⟨X, i, b0, h2, h3, h4, .inl ⟨rfl, by simp only [inS, h2, wct], by rw [zut h2]⟩⟩
  | c X j =>
    obtain ⟨nb, h1, h5⟩ := wda.1 (show (inG L G X).b.bind (fun b => b.ch j) = some bd from h)
    obtain ⟨i, b0, h2, h3, h4, rfl⟩ := zts h1
    exact .inl ⟨X, i, b0, h2, h3, h4, .inr ⟨j, rfl, by simp only [inS, h2, wct], by rw [← zk2]; exact h5⟩⟩
  | r y =>
    have h : (inR L b G H y).body = some bd := h
    unfold inR at h
    split at h
    · cases h
    · rename_i hp
      simp only [zc5, wca] at h
      obtain ⟨bd0, h1, rfl⟩ := h
      exact .inr ⟨y, bd0, rfl, hp, h1, rfl⟩
theorem zfv (hag : ∀ i ∈ L, AgN H G i) {z : Nm} (h : (qd (inG L G) (inR L b G H) z).body.isSome = true) : (H (inS L z)).body.isSome = true := by
  obtain ⟨bd, hb⟩ := wcp.1 h
  rcases zkk hag hb with ⟨X, i, b0, h1, h2, h3, ⟨rfl, e, _⟩ | ⟨j, rfl, e, hj⟩⟩ | ⟨y, bd0, rfl, hp, h1, rfl⟩
  · rw [e, (hag i (wb8 h1)).1]; simp [qr, h2]
  · rw [e, (hag i (wb8 h1)).2]; simp [Qp, h2, hj]
  · show (H y).body.isSome = true; rw [h1]; rfl
theorem zth (hag : ∀ i ∈ L, AgN H G i) : ∀ c, c < w.heap.size → ¬ PZ W.Z H V c → ¬ PZ W.Z (qd (inG L G) (inR L b G H)) (fun z => V (inS L z)) c := fun c _ h =>
  zqb (fun z g hz _ => ⟨_, zfv hag hz, rfl⟩) h
theorem z0n {lim : Nat} (hag : ∀ i ∈ L, AgN H G i) : ∀ id ver x, Z8 (mu1 L lim G) id ver = some x → ver ≤ (H id).ver → x.2 ≤ (qd (inG L G) (inR L b G H) x.1).ver ∧ ((qd (inG L G) (inR L b G H) x.1).body.isSome = true → (qd (inG L G) (inR L b G H) x.1).ver = x.2 → (H id).body.isSome = true ∧ (H id).ver = ver ∧ V (inS L x.1) = V id) := fun id ver x h hv => by
  obtain ⟨X, i, ⟨rfl, rfl, rfl⟩ | ⟨j, rfl, rfl, rfl⟩, hi, _⟩ := zoi h
  · have hv1 : (qd (inG L G) (inR L b G H) (.o X)).ver = 1 := by show (inG L G X).ver = 1; unfold inG; rw [hi]
    have e : inS L (.o X) = .o i := by simp only [inS, hi, wct]
    refine ⟨by rw [hv1]; exact wb7 _, fun h1 _ => ?_⟩
    have := zfv (b := b) hag h1
    simp only [e] at this ⊢
    exact ⟨this, by rw [(hag i (wb8 hi)).1]; rfl, trivial⟩
  · have hv1 : (qd (inG L G) (inR L b G H) (.c X j)).ver = 1 := zut hi
    have e : inS L (.c X j) = .c i j := by simp only [inS, hi, wct]
    refine ⟨by rw [hv1]; exact wb7 _, fun h1 _ => ?_⟩
    have := zfv (b := b) hag h1
    simp only [e] at this ⊢
    exact ⟨this, by rw [(hag i (wb8 hi)).2]; rfl, trivial⟩
theorem z47 (hag : ∀ i ∈ L, AgN H G i) : ∀ id ver x, phG L b G id ver = some x → ver ≤ (H id).ver → x.2 ≤ (qd (inG L G) (inR L b G H) x.1).ver ∧ ((qd (inG L G) (inR L b G H) x.1).body.isSome = true → (qd (inG L G) (inR L b G H) x.1).ver = x.2 → (H id).body.isSome = true ∧ (H id).ver = ver ∧ V (inS L x.1) = V id) := fun id ver x h hv => by
  unfold phG at h
  split at h
  · exact z0n hag id ver x (zkv h).1 hv
  · rename_i hp
    cases h
    have e : qd (inG L G) (inR L b G H) (.r id) = zc5 (phG L b G) (H id) := by show inR L b G H id = _; unfold inR; rw [hp]
    simp only [e]
    refine ⟨hv, fun h1 h2 => ⟨?_, h2, rfl⟩⟩
    simpa [zc5] using h1
theorem zo4 {S : Nm → Nat → Prop} {p : PV} (hf : NmAll S p) : IdOk b (v7 (phG L b G) p) := by
  have hid : ∀ i ver x, phG L b G i ver = some x → NmOk b x.1 := fun i ver x h => by
    unfold phG at h
    split at h
    · obtain ⟨h, i', e⟩ := zkv h
      obtain ⟨X, j, ⟨rfl, rfl, _⟩ | ⟨_, rfl, rfl, _⟩, hi, hlt⟩ := zoi h
      · exact hlt
      · cases e
    · cases h; trivial
  induction hf with
  | noP h => rw [Y8 h]; exact .noP h
  | unk => exact .unk
  | ps =>
    simp only [v7]
    split
    · rename_i x hx; exact .ps (hid _ _ _ hx)
    · exact .unk
  | qs =>
    simp only [v7]
    split
    · rename_i x hx; exact .qs (hid _ _ _ hx)
    · exact .unk
  | pp =>
    simp only [v7]
    split
    · rename_i x hx; exact .pp (hid _ _ _ hx)
    · exact .unk
  | fn hx hy ih1 ih2 =>
    simp only [v7, q4]
    exact .fn (fun p hp => by obtain ⟨q, hq, rfl⟩ := wcf.1 hp; exact ih1 q hq) fun p hp => by obtain ⟨q, hq, rfl⟩ := wcf.1 hp; exact ih2 q hq
  | agg h ih =>
    simp only [v7, q4]
    exact .agg fun p hp => by obtain ⟨q, hq, rfl⟩ := wcf.1 hp; exact ih q hq
  | tup h ih =>
    simp only [v7, q4]
    exact .tup fun p hp => by obtain ⟨q, hq, rfl⟩ := wcf.1 hp; exact ih q hq
theorem inR_ok (hfl : ∀ k, FlB (H k)) : RestOk b (inR L b G H) := fun y bd h c hc => by
  unfold inR at h
  split at h
  · cases h
  · simp only [zc5, wca] at h
    obtain ⟨bd0, h1, rfl⟩ := h
    rw [zet, q4] at hc
    obtain ⟨q, hq, rfl⟩ := wcf.1 hc
    exact zo4 (hfl y bd0 h1 q hq)
theorem z3a (hn : L.Nodup) (hag : ∀ i ∈ L, AgN H G i) {W0 : Env} (hr : HRel P W0 H V w) (hf0 : ∀ i, Fl (W0.G i)) (hfl : ∀ k, FlB (H k)) :
    HRel P { W0 with G := fun i => v7 (phG L b G) (W0.G i) } (qd (inG L G) (inR L b G H)) (fun z => V (inS L z)) w := by
  have hkid : ∀ {X i j : Nat} {b0 : BD} {v}, L[X]? = some i → (G i).b = some b0 → b0.sane = true → Rp W0.Z H V w (.ps (.c i j) (G i).cv) v → Rp W0.Z (qd (inG L G) (inR L b G H)) (fun z => V (inS L z)) w (.ps (.c X j) 1) v := fun {X i j b0 v} hX hb hs hv => by
    cases hv with
    | ps _ _ _ h1 h2 =>
      refine .ps _ _ _ (Nat.le_of_eq (zut hX).symm) fun h3 _ => ?_
      have h4 := zfv (b := b) hag h3
      have e : inS L (.c X j) = .c i j := by simp only [inS, hX, wct]
      simp only [e] at h4 ⊢
      exact h2 h4 (by rw [(hag i (wb8 hX)).2]; rfl)
  refine HRel.ren hr (inS L) rfl rfl (fun i => zdk (hr.ghost i) (hf0 i) (zth (W := W0) hag) (z47 hag)) (fun z bd hb => .inr ?_) fun z z' g h1 h2 _ _ e => ?_
  · rcases zkk hag hb with ⟨X, i, b0, h1, h2, h3, ⟨rfl, e, rfl⟩ | ⟨j, rfl, e, hj⟩⟩ | ⟨y, bd0, rfl, hp, h1, rfl⟩
    · refine ⟨b0.den i (G i).cv, by rw [e, (hag i (wb8 h1)).1]; simp [qr, h2], rfl, fun vs k1 k2 => ?_⟩
      exact zsb (fun p v hp hv => zdk hv hp (zth (W := W0) hag) (z0n hag)) h3 (fun j v hv => hkid h1 h2 h3 hv) k1 k2
    · refine ⟨bd, by rw [e, (hag i (wb8 h1)).2]; simp [Qp, h2, hj], rfl, fun vs k1 k2 => ⟨k1, wae k2 fun c hc v hv => Rp.noP hv (zv0 hj c hc) (zth (W := W0) hag)⟩⟩
    · exact ⟨bd0, h1, rfl, fun vs k1 k2 => ⟨zna.2 k1, by rw [zet]; exact zl4 k2 fun c hc v hv => zdk hv (hfl y bd0 h1 c hc) (zth (W := W0) hag) (z47 hag)⟩⟩
  · obtain ⟨bd, hb⟩ := wcp.1 h1
    obtain ⟨bd', hb'⟩ := wcp.1 h2
    have hdr : ∀ {X i : Nat} {y k : Nm}, L[X]? = some i → k.rt = some i → Yr L y = false → y = k → False := fun {X i y k} h1 h2 h3 h4 => by
      subst h4; rw [zeo h2 (wb8 h1)] at h3; cases h3
    have hinj : ∀ {X X' i : Nat}, L[X]? = some i → L[X']? = some i → X = X' := fun {X X' i} h1 h2 => by
      have h3 := zgc hn h1; rw [zgc hn h2] at h3; cases h3; rfl
    rcases zkk hag hb with ⟨X, i, b0, hi, _, _, ⟨rfl, e1, _⟩ | ⟨j, rfl, e1, _⟩⟩ | ⟨y, bd0, rfl, hp, _, _⟩ <;>
      rcases zkk hag hb' with ⟨X', i', b0', hi', _, _, ⟨rfl, e2, _⟩ | ⟨j', rfl, e2, _⟩⟩ | ⟨y', bd0', rfl, hp', _, _⟩
    · rw [e1, e2] at e; cases e; rw [hinj hi hi']
    · rw [e1, e2] at e; cases e
    · rw [e1] at e; exact (hdr hi (k := .o i) rfl hp' e.symm).elim
    · rw [e1, e2] at e; cases e
    · rw [e1, e2] at e; cases e; rw [hinj hi hi']
    · rw [e1] at e; exact (hdr hi (k := .c i j) rfl hp' e.symm).elim
    · rw [e2] at e; exact (hdr hi' (k := .o i') rfl hp e).elim
    · rw [e2] at e; exact (hdr hi' (k := .c i' j') rfl hp e).elim
    · exact congrArg Nm.r e
end
def zla : List (Nat × Nat) → Nat → Option Nat
  | [], _ => none
  | x :: r, i => match Nat.beq x.1 i with
    | true => some x.2
    | false => zla r i
def zwf : List (Nat × Nat) → Nat → Option Nat
  | [], _ => none
  | x :: r, i => match Nat.beq x.2 i with
    | true => some x.1
    | false => zwf r i
theorem zle : ∀ {l : List (Nat × Nat)} {i X : Nat}, zla l i = some X → (i, X) ∈ l
  | [], i, X, h => by cases h
  | x :: r, i, X, h => by
    simp only [zla] at h
    split at h
    · rename_i hb; cases h; rw [← ju hb]; exact wec ..
    · exact weh _ (zle h)
theorem zk6 : ∀ {l : List (Nat × Nat)} {i : Nat}, zla l i = none → ∀ x ∈ l, x.1 ≠ i
  | [], i, h, x, hx => by cases hx
  | a :: r, i, h, x, hx => by
    simp only [zla] at h
    split at h
    · cases h
    · rename_i hb
      rcases wck.1 hx with rfl | hx
      · intro e; rw [e, wdm] at hb; cases hb
      · exact zk6 h x hx
theorem zmh : ∀ {l : List (Nat × Nat)} {i X : Nat}, zwf l X = some i → (i, X) ∈ l
  | [], i, X, h => by cases h
  | x :: r, i, X, h => by
    simp only [zwf] at h
    split at h
    · rename_i hb; cases h; rw [← ju hb]; exact wec ..
    · exact weh _ (zmh h)
theorem zw8 {l : List (Nat × Nat)} (h : (l.map Prod.fst).Nodup) {i X Y : Nat} (h1 : (i, X) ∈ l) (h2 : (i, Y) ∈ l) : X = Y := by
  induction l with
  | nil => cases h1
  | cons a l ih =>
    simp only [wcj, List.nodup_cons] at h
    rcases wck.1 h1 with rfl | g1
    · rcases wck.1 h2 with h2 | h2
      · cases h2; rfl
      · exact absurd (wcf.2 ⟨_, h2, rfl⟩) h.1
    · rcases wck.1 h2 with rfl | g2
      · exact absurd (show i ∈ l.map Prod.fst from wcf.2 ⟨(i, X), g1, rfl⟩) h.1
      · exact ih h.2 g1 g2
theorem zwz {l : List (Nat × Nat)} (h : (l.map Prod.snd).Nodup) {i j X : Nat} (h1 : (i, X) ∈ l) (h2 : (j, X) ∈ l) : i = j := by
  induction l with
  | nil => cases h1
  | cons a l ih =>
    simp only [wcj, List.nodup_cons] at h
    rcases wck.1 h1 with rfl | g1
    · rcases wck.1 h2 with h2 | h2
      · cases h2; rfl
      · exact absurd (wcf.2 ⟨_, h2, rfl⟩) h.1
    · rcases wck.1 h2 with rfl | g2
      · exact absurd (show X ∈ l.map Prod.snd from wcf.2 ⟨(i, X), g1, rfl⟩) h.1
      · exact ih h.2 g1 g2
def Ve (L : List Nat) (b : Nat) (G G' : EG) (NL : List (Nat × Nat)) : IdT := fun c X ver => match Nat.blt X b with
  | true => match L[X]? with
    | some i => match c with
      | false => match Nat.beq ver 1 with
        | true => some (i, (G i).ver)
        | false => none
      | true => match Nat.beq ver (G' X).cv && !(G' X).flat with
        | true => some (i, (G i).cv + 1)
        | false => none
    | none => none
  | false => match zwf NL X with
    | some i => match Nat.beq ver ((G' X).at c) with
      | true => some (i, (G i).cv + 1)
      | false => none
    | none => none
def zkg (ν : IdT) (b : Nat) (x y : GB) (X : Nat) : GB := match Nat.blt X b && Nat.beq y.ver 1 with
  | true => match Zk ν (x.cv + 1 - x.ver) y.b with
    | some c => match c.flat && !x.flat with
      | true => ⟨x.cv + 1, none⟩
      | false => ⟨x.ver, some c⟩
    | none => ⟨x.cv + 1, none⟩
  | false => ⟨x.cv + 1, none⟩
theorem zdt (ν : IdT) (b : Nat) (x y : GB) (X : Nat) : zkg ν b x y X = ⟨x.cv + 1, none⟩ ∨ ∃ b0, X < b ∧ y.ver = 1 ∧ y.b = some b0 ∧ b0.sane = true ∧ zkg ν b x y X = ⟨x.ver, some (J2 ν (x.cv + 1 - x.ver) b0)⟩ ∧ x.cv ≤ (zkg ν b x y X).cv ∧ ∀ j, (b0.ch j).isSome = true → x.cv < (zkg ν b x y X).cv := by
  unfold zkg
  split
  · rename_i hb
    simp only [wb6, web] at hb
    split
    · rename_i c hc
      split
      · exact .inl rfl
      · rename_i hf
        obtain ⟨b0, h1, h2, rfl⟩ := V7 hc
        have hle := x.ver_le
        refine .inr ⟨b0, hb.1, ju hb.2, h1, h2, rfl, ?_, fun j hj => ?_⟩
        · rcases zf7 ν (x.cv + 1 - x.ver) b0 with ⟨h3, h4⟩ | ⟨h3, h4⟩
          · rw [h3] at hf
            rw [way (by simpa using hf)]
            exact Nat.le_add_right _ _
          · show x.cv ≤ x.ver + (J2 ν (x.cv + 1 - x.ver) b0).kv
            rw [h4]; omega
        · rcases zf7 ν (x.cv + 1 - x.ver) b0 with ⟨h3, h4⟩ | ⟨h3, h4⟩
          · cases b0 <;> first | cases hj | cases h3
          · show x.cv < x.ver + (J2 ν (x.cv + 1 - x.ver) b0).kv
            rw [h4]; omega
    · exact .inl rfl
  · exact .inl rfl
def zx5 (ν : IdT) (b : Nat) (G G' : EG) : List Nat → Nat → List (Nat × GB)
  | [], _ => []
  | i :: r, X => (i, zkg ν b (G i) (G' X) X) :: zx5 ν b G G' r (X + 1)
def zj2 (L : List Nat) (b : Nat) (G G' : EG) (NL : List (Nat × Nat)) : List (Nat × GB) := zx5 (Ve L b G G' NL) b G G' L 0 ++ NL.map fun x => (x.1, ⟨(G x.1).cv + 1, Zk (Ve L b G G' NL) 0 (G' x.2).b⟩)
theorem zof (ν : IdT) (b : Nat) (G G' : EG) : ∀ (L : List Nat) (X : Nat), (zx5 ν b G G' L X).map Prod.fst = L
  | [], X => rfl
  | i :: r, X => by simp only [zx5, wcj, zof ν b G G' r]
theorem zwj (ν : IdT) (b : Nat) (G G' : EG) : ∀ (L : List Nat) (X m i : Nat), L[m]? = some i → (i, zkg ν b (G i) (G' (X + m)) (X + m)) ∈ zx5 ν b G G' L X
  | [], X, m, i, h => by simp at h
  | a :: r, X, 0, i, h => by
    simp only [wdz, wco] at h
    subst h
    simp [zx5]
  | a :: r, X, m + 1, i, h => by
    simp only [wdy] at h
    have := zwj ν b G G' r (X + 1) m i h
    rw [show X + 1 + m = X + (m + 1) by omega] at this
    exact weh _ this
theorem Yz (L : List Nat) (b : Nat) (G G' : EG) (NL : List (Nat × Nat)) : (zj2 L b G G' NL).map Prod.fst = L ++ NL.map Prod.fst := by
  unfold zj2
  rw [wdu, zof, wc7]; rfl
theorem vn : ∀ {ws : List (Nat × GB)} {H : PHeap} {i : Nat} {g : GB} {k : Nm}, (ws.map Prod.fst).Nodup → (i, g) ∈ ws → k.rt = some i → qf H ws k = ym g k
  | [], H, i, g, k, hn, h, _ => by cases h
  | x :: r, H, i, g, k, hn, h, hk => by
    simp only [wcj, List.nodup_cons] at hn
    rcases wck.1 h with rfl | h
    · simp only [qf]
      rw [Yh, if_neg]
      · simp [zcj, hk]
      · intro hb
        obtain ⟨id, h1, h2⟩ := zr.1 hb
        rw [hk] at h2; cases h2; exact hn.1 h1
    · simp only [qf]
      exact vn hn.2 h hk
theorem yu {ws : List (Nat × GB)} {H : PHeap} {y : Nm} (h : ∀ i ∈ ws.map Prod.fst, y.rt ≠ some i) : qf H ws y = H y := by
  rw [Yh, if_neg]
  intro hb
  obtain ⟨id, h1, h2⟩ := zr.1 hb
  exact h id h1 h2
structure zm5 (L : List Nat) (b : Nat) (NL : List (Nat × Nat)) : Prop where
  keys : (L ++ NL.map Prod.fst).Nodup
  snd : (NL.map Prod.snd).Nodup
  hi : ∀ x ∈ NL, b ≤ x.2
section
variable {P : Program} {W : Env} {n : Nat} {L : List Nat} {b : Nat} {NL : List (Nat × Nat)} {G G' : EG} {H : PHeap} {V V' : Nm → Value} {w : World}
def Qn (L : List Nat) (NL : List (Nat × Nat)) : Nm → Nm := fun y => match y.rt with
  | some i => match zje L i 0 with
    | some X => y.re X
    | none => match zla NL i with
      | some X => y.re X
      | none => .r y
  | none => .r y
abbrev Yn (L : List Nat) (b : Nat) (G G' : EG) (NL : List (Nat × Nat)) (H : PHeap) : PHeap := qf H (zj2 L b G G' NL)
def z14 (L : List Nat) (NL : List (Nat × Nat)) (y : Nm) : Prop := Yr L y = false ∧ ∀ x ∈ NL, y.rt ≠ some x.1
theorem zq8 (hx : zm5 L b NL) (y : Nm) :
    (∃ X i : Nat, y.rt = some i ∧ L[X]? = some i ∧ (∀ z : Nm, z.rt = some i → Yn L b G G' NL H z = ym (zkg (Ve L b G G' NL) b (G i) (G' X) X) z) ∧ Qn L NL y = y.re X) ∨
    (∃ X i : Nat, y.rt = some i ∧ (i, X) ∈ NL ∧ (∀ z : Nm, z.rt = some i → Yn L b G G' NL H z = ym ⟨(G i).cv + 1, Zk (Ve L b G G' NL) 0 (G' X).b⟩ z) ∧ Qn L NL y = y.re X) ∨
    (Yn L b G G' NL H y = H y ∧ z14 L NL y ∧ Qn L NL y = .r y) := by
  have hk : ((zj2 L b G G' NL).map Prod.fst).Nodup := by rw [Yz]; exact hx.keys
  unfold Qn
  cases hy : y.rt with
  | none => exact .inr (.inr ⟨yu fun i _ => by rw [hy]; simp, ⟨by unfold Yr; rw [hy], fun x _ => by rw [hy]; simp⟩, rfl⟩)
  | some i =>
    simp only
    cases hp : zje L i 0 with
    | some X =>
      obtain ⟨m, h1, h2⟩ := zdw hp
      refine .inl ⟨X, i, rfl, by rw [h1, wcx]; exact h2, fun z hz => vn hk ?_ hz, rfl⟩
      unfold zj2
      have := zwj (Ve L b G G' NL) b G G' L 0 m i h2
      rw [← h1] at this
      exact wd4 _ this
    | none =>
      simp only
      cases hf : zla NL i with
      | some X =>
        have hmem := zle hf
        refine .inr (.inl ⟨X, i, rfl, hmem, fun z hz => vn hk ?_ hz, rfl⟩)
        unfold zj2
        exact List.mem_append_right _ (wcf.2 ⟨_, hmem, rfl⟩)
      | none =>
        have h1 := zdx hp
        have h2 := zk6 hf
        refine .inr (.inr ⟨yu fun j hj e => ?_, ⟨by unfold Yr; rw [hy]; simp [hp], fun x hx e => ?_⟩, rfl⟩)
        · rw [hy] at e; cases e
          rw [Yz] at hj
          rcases wcr.1 hj with hj | hj
          · exact h1 hj
          · obtain ⟨x, hx, e⟩ := wcf.1 hj
            exact h2 x hx e
        · rw [hy] at e; cases e; exact h2 x hx rfl
def z4s (ν : IdT) (b0 : BD) (g : GB) (X i : Nat) (y : Nm) (bd : PBody) : Prop := (y = .o i ∧ y.re X = .o X ∧ ∃ kv, bd = (J2 ν kv b0).den i g.cv) ∨ ∃ j, y = .c i j ∧ y.re X = .c X j ∧ b0.ch j = some bd
theorem ztw {ν : IdT} {b0 : BD} {g : GB} {kv X i : Nat} {y : Nm} {bd : PBody} (hg : g.b = some (J2 ν kv b0)) (hy : y.rt = some i) (h : (ym g y).body = some bd) : z4s ν b0 g X i y bd := by
  cases y with
  | o i' =>
    cases hy
    obtain ⟨nb, h1, rfl⟩ := wca.1 (show g.b.map (BD.den i g.cv) = some bd from h)
    rw [hg] at h1; cases h1
    exact .inl ⟨rfl, rfl, _, rfl⟩
  | c i' j =>
    cases hy
    obtain ⟨nb, h1, h4⟩ := wda.1 (show g.b.bind (fun b => b.ch j) = some bd from h)
    rw [hg] at h1; cases h1
    exact .inr ⟨j, rfl, rfl, by rw [← zk2]; exact h4⟩
  | r y => cases hy
theorem zgt (hx : zm5 L b NL) {y : Nm} {bd : PBody} (h : (Yn L b G G' NL H y).body = some bd) :
    (∃ X i b0 g, (L[X]? = some i ∧ X < b ∧ (G' X).ver = 1 ∨ (i, X) ∈ NL) ∧ (∀ z : Nm, z.rt = some i → Yn L b G G' NL H z = ym g z) ∧ Qn L NL y = y.re X ∧ (G' X).b = some b0 ∧ b0.sane = true ∧ z4s (Ve L b G G' NL) b0 g X i y bd) ∨
    (Qn L NL y = .r y ∧ z14 L NL y ∧ (H y).body = some bd) := by
  rcases zq8 (G := G) (G' := G') (H := H) hx y with ⟨X, i, h1, h2, h3, h4⟩ | ⟨X, i, h1, h2, h3, h4⟩ | ⟨h1, h2, h3⟩
  · rw [h3 y h1] at h
    rcases zdt (Ve L b G G' NL) b (G i) (G' X) X with e | ⟨b0, k1, k2, k3, k4, k5, _⟩
    · rw [e] at h; cases y <;> first | cases h | (cases h1; done)
    · exact .inl ⟨X, i, b0, _, .inl ⟨h2, k1, k2⟩, h3, h4, k3, k4, ztw (by rw [k5]) h1 h⟩
  · rw [h3 y h1] at h
    cases hp : Zk (Ve L b G G' NL) 0 (G' X).b with
    | none => rw [hp] at h; cases y <;> first | cases h | (cases h1; done)
    | some c =>
      obtain ⟨b0, k3, k4, rfl⟩ := V7 hp
      exact .inl ⟨X, i, b0, _, .inr h2, h3, h4, k3, k4, ztw hp h1 h⟩
  · rw [h1] at h
    exact .inr ⟨h3, h2, h⟩
theorem zho (hx : zm5 L b NL) {y : Nm} (h : (Yn L b G G' NL H y).body.isSome = true) : (qd G' (inR L b G H) (Qn L NL y)).body.isSome = true := by
  obtain ⟨bd, hb⟩ := wcp.1 h
  rcases zgt hx hb with ⟨X, i, b0, g, _, _, h1, h2, _, ⟨_, e, _⟩ | ⟨j, _, e, hj⟩⟩ | ⟨h1, h2, h3⟩
  · rw [h1, e]; simp [qd, qr, h2]
  · rw [h1, e]; simp [qd, Qp, h2, hj]
  · rw [h1]; show (inR L b G H y).body.isSome = true; unfold inR; rw [h2.1]; simp [zc5, h3]
theorem z07 (hx : zm5 L b NL) : ∀ c, c < w.heap.size → ¬ PZ W.Z (qd G' (inR L b G H)) V' c → ¬ PZ W.Z (Yn L b G G' NL H) (fun y => V' (Qn L NL y)) c := fun c _ h => zqb (fun y g hy _ => ⟨_, zho hx hy, rfl⟩) h
theorem z37 {ν : IdT} {x y : GB} {X : Nat} (h : y.flat = false) : (zkg ν b x y X).cv = x.cv + 1 := by
  have hle := x.ver_le
  unfold zkg
  split
  · split
    · rename_i c hc
      obtain ⟨b0, h1, h2, rfl⟩ := V7 hc
      have hf : (J2 ν (x.cv + 1 - x.ver) b0).flat = false := by
        unfold GB.flat at h; rw [h1] at h
        cases b0 <;> first | rfl | cases h
      rcases zf7 ν (x.cv + 1 - x.ver) b0 with ⟨h3, _⟩ | ⟨_, h4⟩
      · rw [hf] at h3; cases h3
      · rw [hf]
        show x.ver + (J2 ν (x.cv + 1 - x.ver) b0).kv = x.cv + 1
        rw [h4]; omega
    · rfl
  · rfl
theorem zos (hn : L.Nodup) (hx : zm5 L b NL) {c : Bool} {X ver : Nat} {x : Nat × Nat} (h : Ve L b G G' NL c X ver = some x) :
    (L[X]? = some x.1 ∧ X < b ∧ (c = false ∧ ver = 1 ∧ x.2 = (G x.1).ver ∨ c = true ∧ ver = (G' X).cv ∧ (G' X).flat = false ∧ x.2 = (G x.1).cv + 1)) ∨ ((x.1, X) ∈ NL ∧ ver = (G' X).at c ∧ x.2 = (G x.1).cv + 1) := by
  unfold Ve at h
  split at h
  · rename_i hb
    split at h <;> try (cases h; done)
    rename_i i hi
    have hb : X < b := by simpa [web] using hb
    split at h
    · split at h <;> cases h
      rename_i hv
      exact .inl ⟨hi, hb, .inl ⟨rfl, ju hv, rfl⟩⟩
    · split at h <;> cases h
      rename_i hv
      simp only [wb6, wc5] at hv
      exact .inl ⟨hi, hb, .inr ⟨rfl, ju hv.1, hv.2, rfl⟩⟩
  · split at h <;> try (cases h; done)
    rename_i i hi
    split at h <;> cases h
    rename_i hv
    exact .inr ⟨zmh hi, ju hv, rfl⟩
theorem zzc (hx : zm5 L b NL) (hn : L.Nodup) : ∀ id ver x, Z8 (Ve L b G G' NL) id ver = some x → ver ≤ (qd G' (inR L b G H) id).ver → x.2 ≤ (Yn L b G G' NL H x.1).ver ∧ ((Yn L b G G' NL H x.1).body.isSome = true → (Yn L b G G' NL H x.1).ver = x.2 → (qd G' (inR L b G H) id).body.isSome = true ∧ (qd G' (inR L b G H) id).ver = ver ∧ V' (Qn L NL x.1) = V' id) := fun id ver x h hv => by
  have hkeys := List.nodup_append.1 hx.keys
  have hL : ∀ {X i : Nat} {y : Nm}, L[X]? = some i → y.rt = some i → Yn L b G G' NL H y = ym (zkg (Ve L b G G' NL) b (G i) (G' X) X) y ∧ Qn L NL y = y.re X := fun {X i y} hi hy => by
    rcases zq8 (G := G) (G' := G') (H := H) hx y with ⟨X', i', h1, h2, h3, h4⟩ | ⟨X', i', h1, h2, h3, h4⟩ | ⟨h1, h2, h3⟩
    · rw [hy] at h1; cases h1
      have e := zgc hn hi
      rw [zgc hn h2] at e
      cases e
      exact ⟨h3 y hy, h4⟩
    · rw [hy] at h1; cases h1
      exact absurd rfl (hkeys.2.2 _ (wb8 hi) _ (wcf.2 ⟨_, h2, rfl⟩))
    · exact absurd (h2.1.symm.trans (zeo hy (wb8 hi))) (by simp)
  have hN : ∀ {X i : Nat} {y : Nm}, (i, X) ∈ NL → y.rt = some i → Yn L b G G' NL H y = ym ⟨(G i).cv + 1, Zk (Ve L b G G' NL) 0 (G' X).b⟩ y ∧ Qn L NL y = y.re X := fun {X i y} hmem hy => by
    rcases zq8 (G := G) (G' := G') (H := H) hx y with ⟨X', i', h1, h2, h3, h4⟩ | ⟨X', i', h1, h2, h3, h4⟩ | ⟨h1, h2, h3⟩
    · rw [hy] at h1; cases h1
      exact absurd rfl (hkeys.2.2 _ (wb8 h2) _ (wcf.2 ⟨_, hmem, rfl⟩))
    · rw [hy] at h1; cases h1
      have := zw8 hkeys.2.1 hmem h2
      subst this
      exact ⟨h3 y hy, h4⟩
    · exact absurd hy (h2.2 _ hmem)
  have live : ∀ {y z : Nm}, Qn L NL y = z → (Yn L b G G' NL H y).body.isSome = true → (qd G' (inR L b G H) z).body.isSome = true := fun {y z} e h => by
    have := zho (G := G) (G' := G') hx h
    rw [e] at this; exact this
  cases id with
  | r y => cases h
  | o X =>
    obtain ⟨z, hz, rfl⟩ := wca.1 (show (Ve L b G G' NL false X ver).map (fun x => (Nm.o x.1, x.2)) = some x from h)
    rcases zos hn hx hz with ⟨hi, hb, ⟨_, rfl, e⟩ | ⟨e, _⟩⟩ | ⟨hm, hv1, e⟩
    · obtain ⟨h3, h4⟩ := hL (y := .o z.1) hi rfl
      refine ⟨?_, fun k1 _ => ⟨live h4 k1, ?_, by rw [h4]; rfl⟩⟩
      · rw [h3, e]
        rcases zdt (Ve L b G G' NL) b (G z.1) (G' X) X with e | ⟨b0, g1, g2, g3, g4, g5, _⟩
        · rw [e]; exact Nat.le_succ_of_le (GB.ver_le _)
        · rw [g5]; exact wb7 _
      · rw [h3] at k1
        rcases zdt (Ve L b G G' NL) b (G z.1) (G' X) X with e | ⟨b0, g1, g2, g3, g4, g5, _⟩
        · rw [e] at k1; cases k1
        · exact g2
    · cases e
    · obtain ⟨h3, h4⟩ := hN (y := .o z.1) hm rfl
      exact ⟨by rw [h3, e]; exact wb7 _, fun k1 _ => ⟨live h4 k1, hv1.symm, by rw [h4]; rfl⟩⟩
  | c X j =>
    obtain ⟨z, hz, rfl⟩ := wca.1 (show (Ve L b G G' NL true X ver).map (fun x => (Nm.c x.1 j, x.2)) = some x from h)
    rcases zos hn hx hz with ⟨hi, hb, ⟨e, _⟩ | ⟨_, rfl, hf, e⟩⟩ | ⟨hm, hv1, e⟩
    · cases e
    · obtain ⟨h3, h4⟩ := hL (y := .c z.1 j) hi rfl
      exact ⟨by rw [h3, e]; exact Nat.le_of_eq (z37 hf).symm, fun k1 _ => ⟨live h4 k1, rfl, by rw [h4]; rfl⟩⟩
    · obtain ⟨h3, h4⟩ := hN (y := .c z.1 j) hm rfl
      exact ⟨by rw [h3, e]; exact Nat.le_of_eq (zh6 _).symm, fun k1 _ => ⟨live h4 k1, hv1.symm, by rw [h4]; rfl⟩⟩
theorem z4a (hx : zm5 L b NL) {X i j v1 v2 : Nat} {v : Value} (hs : Qn L NL (.c i j) = .c X j) (hv1 : (qd G' (inR L b G H) (.c X j)).ver = v1) (hv : (Yn L b G G' NL H (.c i j)).ver = v2) (h : Rp W.Z (qd G' (inR L b G H)) V' w (.ps (.c X j) v1) v) : Rp W.Z (Yn L b G G' NL H) (fun y => V' (Qn L NL y)) w (.ps (.c i j) v2) v := by
  cases h with
  | ps _ _ _ h1 h2 =>
    refine .ps _ _ _ (by rw [hv]; exact wb7 _) fun h3 _ => ?_
    have := zho hx h3
    rw [hs] at this ⊢
    exact h2 this hv1
def z1g (H : PHeap) (y : Nm) (ver : Nat) : Prop := ver ≤ (H y).ver
theorem zrk (hx : zm5 L b NL) (hn : L.Nodup) (hag : ∀ i ∈ L ++ NL.map Prod.fst, AgN H G i) : Back (z1g H) (phG L b G) (qd G' (inR L b G H)) (Yn L b G G' NL H) V' (fun y => V' (Qn L NL y)) := fun y ver hv => by
  have hv : ver ≤ (H y).ver := hv
  rcases zq8 (G := G) (G' := G') (H := H) hx y with ⟨X, i, hy, h2, h3, h4⟩ | ⟨X, i, hy, h2, h3, h4⟩ | ⟨h1, h2, h3⟩
  · have hi := wb8 h2
    have hd := zeo hy hi
    have hA := hag i (wd4 _ hi)
    rw [hA.at hy] at hv
    rw [h3 y hy]
    have hle : (ym (G i) y).ver ≤ (G i).cv := by
      cases y with
      | o _ => exact GB.ver_le _
      | c _ _ => exact wb7 _
      | r _ => cases hy
    rcases zdt (Ve L b G G' NL) b (G i) (G' X) X with e | ⟨b0, g1, g2, g3, g4, g5, g6, g7⟩
    · rw [e]
      refine ⟨?_, fun k => by cases y <;> first | cases k | cases hy⟩
      cases y with
      | o _ => exact Nat.le_succ_of_le (wdo hv hle)
      | c _ _ => exact Nat.le_succ_of_le (wdo hv hle)
      | r _ => cases hy
    · cases y with
      | r _ => cases hy
      | c i' j =>
        cases hy
        refine ⟨wdo (wdo hv hle) g6, fun k1 k2 => ?_⟩
        have hj : (b0.ch j).isSome = true := by
          rw [g5] at k1
          simpa [ym, Qp, zk2] using k1
        have := g7 j hj
        have k2 : (zkg (Ve L b G G' NL) b (G i) (G' X) X).cv = ver := k2
        omega
      | o i' =>
        cases hy
        rw [g5]
        refine ⟨hv, fun k1 k2 => ⟨(.o X, 1), ?_, by simp [qd, qr, g3], g2, by show V' (Qn L NL (.o i)) = V' (.o X); rw [h4]; rfl⟩⟩
        have k2 : (G i).ver = ver := k2
        unfold phG
        rw [hd, Zc]
        unfold zzu mu1
        simp only [zgc hn h2]
        have : (Nat.blt X b && Nat.beq ver ((G i).at false)) = true := by
          show (Nat.blt X b && Nat.beq ver (G i).ver) = true
          rw [← k2, wdm, Bool.and_true, web]; exact g1
        simp only [this]; rfl
  · rw [(hag i (List.mem_append_right _ (wcf.2 ⟨_, h2, rfl⟩))).at hy] at hv
    rw [h3 y hy]
    have key : (ym (G i) y).ver < (ym ⟨(G i).cv + 1, Zk (Ve L b G G' NL) 0 (G' X).b⟩ y).ver := by
      cases y with
      | o _ => exact Nat.lt_succ_of_le (GB.ver_le _)
      | c _ _ =>
        show (G i).cv < GB.cv ⟨(G i).cv + 1, Zk (Ve L b G G' NL) 0 (G' X).b⟩
        rw [zh6]; exact Nat.lt_succ_self _
      | r _ => cases hy
    exact ⟨by omega, fun _ k2 => by omega⟩
  · rw [h1]
    refine ⟨hv, fun k1 k2 => ⟨(.r y, ver), ?_, ?_, ?_, by show V' (Qn L NL y) = V' (.r y); rw [h3]⟩⟩
    · unfold phG; rw [h2.1]
    · show (inR L b G H y).body.isSome = true
      unfold inR; rw [h2.1]; simp only [zc5, Option.isSome_map]; exact k1
    · show (inR L b G H y).ver = ver
      unfold inR; rw [h2.1]; exact k2
theorem zzw (hx : zm5 L b NL) (hn : L.Nodup) (hag : ∀ i ∈ L ++ NL.map Prod.fst, AgN H G i) {W1 : Env} (hw : W1.w = W.w) (hZ : W1.Z = W.Z) (hr : HRel P W1 (qd G' (inR L b G H)) V' w) (hg : ∀ i, Rp W.Z (Yn L b G G' NL H) (fun y => V' (Qn L NL y)) w (W.G i) (W.gv i)) (hf : ∀ k bd, z14 L NL k → (H k).body = some bd → ∀ c ∈ bd.cs, NmAll (z1g H) c) :
    HRel P W (Yn L b G G' NL H) (fun y => V' (Qn L NL y)) w := by
  have hkeys := List.nodup_append.1 hx.keys
  have hz : ∀ c, c < w.heap.size → ¬ PZ W1.Z (qd G' (inR L b G H)) V' c → ¬ PZ W1.Z (Yn L b G G' NL H) (fun y => V' (Qn L NL y)) c := z07 (W := W1) hx
  refine HRel.ren hr (Qn L NL) hw.symm hZ.symm (fun i => by rw [hZ]; exact hg i) (fun y bd hb => .inr ?_) fun y y' g h1 h2 _ _ e => ?_
  · rcases zgt hx hb with ⟨X, i, b0, g, ho, hg, h1, h2, h3, hbn⟩ | ⟨h1, h2, h3⟩
    · rcases hbn with ⟨rfl, e, kv, rfl⟩ | ⟨j, rfl, e, hj⟩
      · refine ⟨b0.den X (G' X).cv, by rw [h1, e]; simp [qd, qr, h2], rfl, fun vs k1 k2 => ?_⟩
        refine zsb (fun p v hp hv => zdk hv hp hz (zzc hx hn)) h3 (fun j v hv => ?_) k1 k2
        have hsj : Qn L NL (.c i j) = .c X j := by
          have : Qn L NL (.o i) = .o X := by rw [h1, e]
          unfold Qn at this ⊢
          simp only [Nm.rt] at this ⊢
          split at this
          · simp only [Nm.re, Nm.o.injEq] at this ⊢; rw [this]
          · split at this
            · simp only [Nm.re, Nm.o.injEq] at this ⊢; rw [this]
            · cases this
        exact z4a (W := W1) hx hsj rfl (by rw [hg _ rfl]; rfl) hv
      · exact ⟨bd, by rw [h1, e]; simp [qd, Qp, h2, hj], rfl, fun vs k1 k2 => ⟨k1, wae k2 fun c hc v hv => Rp.noP hv (zv0 hj c hc) hz⟩⟩
    · refine ⟨zga (phG L b G) bd, ?_, rfl, fun vs k1 k2 => ⟨zna.1 k1, ?_⟩⟩
      · rw [h1]; show (inR L b G H y).body = _; unfold inR; rw [h2.1]; simp [zc5, h3]
      · rw [zet] at k2
        exact z21 (hf y bd h2 h3) k2 hz (zrk hx hn hag)
  · obtain ⟨bd, hb⟩ := wcp.1 h1
    obtain ⟨bd', hb'⟩ := wcp.1 h2
    have hinj : ∀ {X i i' : Nat}, (L[X]? = some i ∧ X < b ∧ (G' X).ver = 1 ∨ (i, X) ∈ NL) → (L[X]? = some i' ∧ X < b ∧ (G' X).ver = 1 ∨ (i', X) ∈ NL) → i = i' := fun {X i i'} h1 h2 => by
      rcases h1 with ⟨a1, a2, _⟩ | a1 <;> rcases h2 with ⟨b1, b2, _⟩ | b1
      · rw [a1] at b1; cases b1; rfl
      · have := hx.hi _ b1; simp only at this; omega
      · have := hx.hi _ a1; simp only at this; omega
      · exact zwz hx.snd a1 b1
    rcases zgt hx hb with ⟨X, i, b0, gg, o1, _, g1, _, _, ⟨rfl, e1, _⟩ | ⟨j, rfl, e1, _⟩⟩ | ⟨g1, _⟩ <;>
      rcases zgt hx hb' with ⟨X', i', b0', gg', o2, _, g2, _, _, ⟨rfl, e2, _⟩ | ⟨j', rfl, e2, _⟩⟩ | ⟨g2, _⟩
    · rw [g1, g2, e1, e2] at e; cases e; rw [hinj o1 o2]
    · rw [g1, g2, e1, e2] at e; cases e
    · rw [g1, g2, e1] at e; cases e
    · rw [g1, g2, e1, e2] at e; cases e
    · rw [g1, g2, e1, e2] at e; cases e; rw [hinj o1 o2]
    · rw [g1, g2, e1] at e; cases e
    · rw [g1, g2, e2] at e; cases e
    · rw [g1, g2, e2] at e; cases e
    · rw [g1, g2] at e; cases e; rfl
end
def z05 (xs : List TS) : EF := fun s => match xs[s]? with
  | some x => x
  | none => UND
theorem ztz (xs : List TS) : zda (q8 xs) = v6 (z05 xs) := by
  funext t
  unfold zda v6 z05
  rw [Zf, wb9]
  cases xs[t]? with
  | none => simp only [Option.map_none, Option.getD_none]; exact und_den.symm
  | some d => simp only [wcd, wct]
theorem wb1 {P : Program} {W : Env} {n : Nat} {L : List Nat} {b : Nat} {NL : List (Nat × Nat)} {G G' : EG} {H : PHeap} {F : PFrame} {o : Oper} {cl : Call} {az : List TS} {f : FuncId} {fn : Func} {c : Code} {s : TS} {E' : EF} {e0 : Exit}
    (hd : Jc n o) (ho : o.op = .call cl) (ht : Q8 F cl = some (f, q8 az)) (hg : yr P f = true) (hf : P.funcs[f]? = some fn) (hb : fn.body = some c) (hl : az.length ≤ fn.ntmps) (hfl : FlW W F H)
    (hx : zm5 L b NL) (hn : L.Nodup) (hag : ∀ i ∈ L ++ NL.map Prod.fst, AgN H G i) (he : e0 = .normal ∨ e0 = .ret)
    (hc : ∀ W1 R1, GhOk b W1 → RestOk b R1 → PC P W1 fn.ntmps c (v6 (z05 (z7 (mu1 L L.length G) az))) (qd (inG L G) R1) fun e F' H' => e = e0 ∧ F' = v6 E' ∧ H' = qd G' R1)
    (hres : zjx P fn.results.toList E' G' = some s) :
    PE P W n o F H fun p H' => p = (Zt (Ve L b G G' NL) s).den ∧ H' = qf H (zj2 L b G G' NL) := fun V a w hr => by
  obtain ⟨vs, hev, hR⟩ := Qf (P := P) (W := W) (H := H) (V := V) (a := a) (w := w) ho ht hg fun x hx' => Rp.eval (P := P) x fun t ht => hr.slot t
  have hagL : ∀ i ∈ L, AgN H G i := fun i hi => hag i (wd4 _ hi)
  have hpf : ∀ i, Fl ((W.push F a).G i) := fun i => by
    simp only [Env.push]
    split
    · exact hfl.f _
    · exact hfl.g _
  have hpush : HRel P (W.push F a) H V w := ⟨hr.heap.below, hr.heap.body, fun i => by
    simp only [Env.push]
    split
    · exact hr.slot _
    · exact hr.heap.ghost _, hr.heap.apart, hr.heap.zlt, hr.heap.nz⟩
  have hin := z3a (b := b) hn hagL hpush hpf hfl.h
  have hargs : RpL W.Z (qd (inG L G) (inR L b G H)) (fun z => V (inS L z)) w (q8 (z7 (mu1 L L.length G) az)) vs := by
    rw [zaz, ← q4]
    exact zl4 hR fun x hx v hv => zdk hv (zfw az x hx) (zth hagL) (z0n hagL)
  have hlen : (q8 (z7 (mu1 L L.length G) az)).length = az.length := by rw [Zf, wcs, zhl]
  have hl1 := hargs.1
  rw [hlen] at hl1
  let W1 : Env := { W.push F a with G := fun i => v7 (phG L b G) ((W.push F a).G i), ds := [] }
  have hGh : GhOk b W1 := fun i => zo4 (hpf i)
  have hRest : RestOk b (inR L b G H) := inR_ok hfl.h
  have hcode := hc W1 (inR L b G H) hGh hRest
  refine zb0 hev (calls_of_wp hf hb (hcode (fun z => V (inS L z)) _ w _ ⟨⟨hin.below, hin.body, hin.ghost, hin.apart, hin.zlt, hin.nz⟩, by simp; omega, rfl, fun t => ?_⟩ fun e F' H' V' a' w' hq hr' => ?_))
  · rw [← ztz]
    unfold zda
    by_cases ht : t < (q8 (z7 (mu1 L L.length G) az)).length
    · have htv : t < vs.length := by omega
      have := hargs.2 t _ _ (wb5 ht) (wb5 htv)
      rw [wb5 ht]
      simpa [W1, Env.push, wcy, Array.getElem?_append, htv] using this
    · have htv : ¬ t < vs.length := by omega
      rw [wdn (by omega)]
      have : (vs.toArray ++ Array.replicate (fn.ntmps - vs.toArray.size) undef).getD t undef = undef := by
        rw [wcy, Array.getElem?_append, if_neg (by simpa using htv), Array.getElem?_replicate]
        split <;> rfl
      simp only [this, Option.getD_none]
      exact .u _
  · obtain ⟨rfl, rfl, rfl⟩ := hq
    obtain ⟨q, hq, hrq⟩ := zqk (R := inR L b G H) hres
    obtain ⟨v, hrun, hqv⟩ := zlc hr' hq
    have hqv := hrq _ _ _ _ _ hqv
    have hh' : HRel P W1 (qd G' (inR L b G H)) V' w' := hr'.heap
    have hz : ∀ c, c < w'.heap.size → ¬ PZ W.Z (qd G' (inR L b G H)) V' c → ¬ PZ W.Z (Yn L b G G' NL H) (fun y => V' (Qn L NL y)) c := z07 hx
    have hbk := zrk (V' := V') (G' := G') (b := b) hx hn hag
    have hgh : ∀ i, Rp W.Z (Yn L b G G' NL H) (fun y => V' (Qn L NL y)) w' ((W.push F a).G i) ((W.push F a).gv i) := fun i =>
      z0e (((hpf i).past (hpush.ghost i)).mono fun _ _ h => h.2) (hh'.ghost i) hz hbk
    have hs : ∀ t, Rp W.Z (Yn L b G G' NL H) (fun y => V' (Qn L NL y)) w' (F t) (a.tmps.getD t undef) := fun t => by
      have := hgh (2 * t)
      simp only [Env.push, Nat.mul_mod_right, if_true] at this
      rwa [show 2 * t / 2 = t by omega] at this
    have hgg : ∀ i, Rp W.Z (Yn L b G G' NL H) (fun y => V' (Qn L NL y)) w' (W.G i) (W.gv i) := fun i => by
      have := hgh (2 * i + 1)
      simp only [Env.push, show ¬ ((2 * i + 1) % 2 = 0) by omega, if_false] at this
      rwa [show (2 * i + 1) / 2 = i by omega] at this
    have hcell : ∀ k bd, z14 L NL k → (H k).body = some bd → ∀ c ∈ bd.cs, NmAll (z1g H) c := fun k bd hk hbd c hc => by
      obtain ⟨vs, _, h2⟩ := hr.heap.body k bd hbd
      obtain ⟨i, hi⟩ := zkz hc
      have hlt : i < vs.length := by rw [← h2.1]; exact (wb3.1 hi).1
      exact ((hfl.h k bd hbd c hc).past (h2.2 i c _ hi (wb5 hlt))).mono fun _ _ h => h.2
    have hheap := zzw (W := W) (G' := G') hx hn hag (W1 := W1) rfl rfl hh' hgg hcell
    have hrel : Rel P W n F (Yn L b G G' NL H) (fun y => V' (Qn L NL y)) a w' := ⟨hheap, hr.size, hr.defers, hs⟩
    have hpv : Rp W.Z (Yn L b G G' NL H) (fun y => V' (Qn L NL y)) w' (Zt (Ve L b G G' NL) s).den v := by
      rw [zmz]
      exact zdk hqv (Jv s) hz (zzc hx hn)
    have hput := hrel.put (Below.refl _ _) o.dst hd hpv
    rcases he with rfl | rfl
    · exact ⟨hr'.defers, v, hrun, v, rfl, _, _, _, ⟨rfl, rfl⟩, hput⟩
    · exact ⟨hr'.defers, v, hrun, v, rfl, _, _, _, ⟨rfl, rfl⟩, hput⟩
def zhf (s : List UInt8) (p : Int) : Bool := Nat.blt p.toNat s.length
def z42 (p : Int) : Int := (p.toNat : Int)
def z08 (s : List UInt8) (p : Int) : Int := ((Utf8.decode ⟨⟨s⟩⟩ p.toNat).1 : Int)
def zey (s : List UInt8) (p : Int) : Int := ((p.toNat + (Utf8.decode ⟨⟨s⟩⟩ p.toNat).2 : Nat) : Int)
def zum (P : Program) (t : TypeId) (o : Oper) (nid : Nat) (G : EG) (x : TS) : Option SR := match Yc P t with
  | false => none
  | true => match vz o with
    | false => none
    | true => match zk .str x with
      | none => none
      | some s => some (.mem (.own nid (nv G nid)) nid ⟨nv G nid, some (.obj .si (s, 0, ()))⟩ [])
def zze (o : Oper) (G : EG) (x : TS) : Option SK := match vz o with
  | false => none
  | true => match x with
    | .own id ver => match Nat.beq (G id).ver ver with
      | true => match (G id).b with
        | some (.obj .si y) => some ⟨fun k => ifB (zhf y.1 y.2.1) (k (.tup [.c (.bool true), .v ⟨.int .i64, z42 y.2.1⟩, .v ⟨.int .i32, z08 y.1 y.2.1⟩]) [(id, ⟨ver, some (.obj .si (y.1, zey y.1 y.2.1, ()))⟩)] ⟨[], [id]⟩) (k (.tup [.c (.bool false)]) [] ⟨[id], []⟩)⟩
        | _ => none
      | false => none
    | _ => none
section
variable {P : Program} {o : Oper} {E : EF} {G : EG} {H : PHeap} {F : PFrame} {W : Env} {n : Nat}
theorem zxo {t : TypeId} {nid : Nat} {x : Operand} {q : SR} (ho : o.op = .range t x) (h : zum P t o nid G (evE E x) = some q) : SOk P o E G q := by
  have hx' : x ∈ o.op.operands := by rw [ho]; simp [Op.operands]
  unfold zum at h
  split at h <;> try (cases h; done)
  rename_i ht
  split at h <;> try (cases h; done)
  rename_i hds
  split at h <;> cases h
  rename_i s hs
  have hu : P.underlying t = some .string := by
    unfold Yc at ht
    split at ht
    · assumption
    · cases ht
  refine SOk.mem fun W n F H hdo hag V a w hr => ?_
  have hxv : a.eval x = .string ⟨⟨s⟩⟩ := by
    have := Rp.eval (P := P) (F := F) (a := a) (Z := W.Z) (H := H) (V := V) (w := w) x fun t _ => hr.slot t
    rw [hag.ev hx', vj hs] at this
    generalize a.eval x = v at this
    cases this; rfl
  have hex : (execOp a.eval o).run P w = .ok (.value (.pointer (some ⟨w.heap.size, 0, none⟩))) (w.alloc (.stringIter ⟨⟨s⟩⟩ 0)) := by
    simp [execOp, ho, hxv, Instr.range, run_underlying hu]
  refine ve hex ⟨.ps (.o nid) (nv G nid), H.set (.o nid) ⟨(H (.o nid)).ver + 1, some (RK.den .si (s, 0, ()))⟩, vg V (.o nid) (.pointer (some ⟨w.heap.size, 0, none⟩)), ⟨by simp only [TS.den], ?_⟩, ?_⟩
  · rw [zij hag]; rfl
  · have hb : Below w.heap.size w (w.alloc (.stringIter ⟨⟨s⟩⟩ 0)) := (Below.refl _ _).alloc (wb7 _) _
    refine hr.turn (Turn.new hr.heap hb rfl fun g hg => by cases hg; exact wb7 _) (fun bd hbd => ?_) o.dst (fun t ht => hdo t ht) ?_
    · cases hbd
      exact ⟨w.heap.size, _, [], rfl, hr.heap.below.size, heap_alloc_new w _, rfl, rfl, fun i p v h => by simp at h⟩
    · refine .ps _ _ _ ?_ fun _ _ => ?_
      · simp [PHeap.set, zij hag]
      · simp [vg]
theorem z40 {id ver : Nat} {y : List UInt8 × Int × Unit} (hG : G id = ⟨ver, some (.obj .si y)⟩) (hH : H (.o id) = qr id (G id)) {V : Nm → Value} {w : World} (hr : HRel P W H V w) {v : Value} (hv : Rp W.Z H V w (.ps (.o id) ver) v) :
    ∃ g, v = .pointer (some ⟨g, 0, none⟩) ∧ V (.o id) = .pointer (some ⟨g, 0, none⟩) ∧ W.w.heap.size ≤ g ∧ w.heap[g]? = some (.stringIter ⟨⟨y.1⟩⟩ y.2.1.toNat) := by
  have hb : H (.o id) = ⟨ver, some (RK.den .si y)⟩ := by rw [hH, hG]; rfl
  obtain ⟨g, o, vs, e, hg, hh, rfl, _⟩ := hr.map (.o id) true [] _ (by rw [hb]; rfl)
  cases hv with
  | ps _ _ _ hvv hq =>
    have := hq (by rw [hb]; rfl) (by rw [hb])
    exact ⟨g, by rw [this, e]; rfl, e, hg, hh⟩
theorem z0i {x : Operand} {q : SK} (ho : o.op = .next x true) (h : zze o G (evE E x) = some q) : zer P o E G q := by
  have hx' : x ∈ o.op.operands := by rw [ho]; simp [Op.operands]
  unfold zze at h
  split at h <;> try (cases h; done)
  rename_i hds
  split at h <;> try (cases h; done)
  rename_i id ver hx
  split at h <;> try (cases h; done)
  rename_i hv
  split at h <;> cases h
  rename_i y hb
  have hG : G id = ⟨ver, some (.obj .si y)⟩ := by
    cases hG : G id with
    | mk v b =>
      rw [hG] at hv hb
      simp only at hv hb
      rw [ju hv, hb]
  intro β k r hr
  simp only at hr
  cases hm : zhf y.1 y.2.1 with
  | false =>
    rw [hm] at hr
    refine ⟨_, _, _, hr, fun k2 => by simp only [hm]; rfl, fun id' h => by simp at h, fun W n F H hfl hdo hF hH => ?_⟩
    have hag : Agr o E G [id] F H := ⟨hF, fun i hi => hH i (.inl hi)⟩
    refine wan hdo (wab fun V a w hw hh => ?_) ⟨rfl, rfl⟩
    have hxv := hh x hx'
    rw [hag.ev hx', hx] at hxv
    simp only [TS.den] at hxv
    obtain ⟨g, e1, e2, e3, e4⟩ := z40 hG (hag.h id (by simp)) hw hxv
    have hlt : ¬ y.2.1.toNat < y.1.length := by
      intro h
      have : zhf y.1 y.2.1 = true := by simpa [zhf, web] using h
      rw [hm] at this; cases this
    refine ⟨.tuple #[.bool false], ?_, ?_⟩
    · have hs : ¬ y.2.1.toNat < (⟨⟨y.1⟩⟩ : ByteArray).size := by simpa [ByteArray.size] using hlt
      simp [execOp, ho, e1, Instr.next, getObj, Sem.run, e4, hs]
    · simp only [TS.den, q8]
      exact .tup _ _ rfl fun i p v h1 h2 => by
        match i, h1, h2 with
        | 0, h1, h2 => cases h1; cases h2; exact .u _
  | true =>
    rw [hm] at hr
    refine ⟨_, _, _, hr, fun k2 => by simp only [hm]; rfl, fun id' h => by simpa using h, fun W n F H hfl hdo hF hH V a w hrel => ?_⟩
    have hag : Agr o E G [id] F H := ⟨hF, fun i hi => hH i (.inr (by simpa using hi))⟩
    have hxv := Rp.eval (P := P) (F := F) (a := a) (Z := W.Z) (H := H) (V := V) (w := w) x fun t _ => hrel.slot t
    rw [hag.ev hx', hx] at hxv
    simp only [TS.den] at hxv
    have hHi := hag.h id (by simp)
    obtain ⟨g, e1, e2, e3, e4⟩ := z40 hG hHi hrel.heap hxv
    have hlt : y.2.1.toNat < y.1.length := by simpa [zhf, web] using hm
    have hs : y.2.1.toNat < (⟨⟨y.1⟩⟩ : ByteArray).size := by simpa [ByteArray.size] using hlt
    have hHb : H (.o id) = ⟨ver, some (RK.den .si y)⟩ := by rw [hHi, hG]; rfl
    have hl : (H (.o id)).body.isSome = true := by rw [hHb]; rfl
    have hgl := (wcg.1 e4).1
    have hother : ∀ (o : Obj) b, b ≠ g → (w.heap.setIfInBounds g o)[b]? = w.heap[b]? := fun o b hne => by simp [Ne.symm hne]
    have hex : (execOp a.eval o).run P w = .ok (.value (.tuple #[.bool true, .int .i64 (y.2.1.toNat : Int), .int .i32 ((Utf8.decode ⟨⟨y.1⟩⟩ y.2.1.toNat).1 : Int)])) { w with heap := w.heap.setIfInBounds g (.stringIter ⟨⟨y.1⟩⟩ (y.2.1.toNat + (Utf8.decode ⟨⟨y.1⟩⟩ y.2.1.toNat).2)) } := by
      simp [execOp, ho, e1, Instr.next, getObj, setObj, Sem.run, e4, hs, goInt]
    have hturn : Turn W H V w (.o id) ⟨ver, some (RK.den .si (y.1, zey y.1 y.2.1, ()))⟩ (V (.o id)) { w with heap := w.heap.setIfInBounds g (.stringIter ⟨⟨y.1⟩⟩ (y.2.1.toNat + (Utf8.decode ⟨⟨y.1⟩⟩ y.2.1.toNat).2)) } :=
      ⟨hrel.heap.below.trans ⟨rfl, rfl, rfl, by simp, fun b hb => hother _ b (by omega)⟩, by simp, fun b hb hn => hother _ b fun e => hn ⟨hl, by rw [e, e2]; rfl⟩, fun g' hg' => .inr ⟨hl, hg'⟩, .inr ⟨by rw [hHb], rfl, hl⟩⟩
    refine ve hex ⟨_, _, vg V (.o id) (V (.o id)), ⟨rfl, zo0 (x := ⟨ver, some (.obj .si (y.1, zey y.1 y.2.1, ()))⟩) rfl fun j => by rw [(hag.hn id (by simp)).2, hG]; rfl⟩, hrel.turn hturn (fun bd hbd => ?_) o.dst hdo ?_⟩
    · cases hbd
      exact ⟨g, .stringIter ⟨⟨y.1⟩⟩ (y.2.1.toNat + (Utf8.decode ⟨⟨y.1⟩⟩ y.2.1.toNat).2), [], e2, e3, by simp [hgl], by show Obj.stringIter _ _ = Obj.stringIter _ _; rw [show (zey y.1 y.2.1).toNat = y.2.1.toNat + (Utf8.decode ⟨⟨y.1⟩⟩ y.2.1.toNat).2 from Int.toNat_natCast _], rfl, fun i p v h => by simp at h⟩
    · simp only [TS.den, q8]
      exact .tup _ _ rfl fun i p v h1 h2 => by
        match i, h1, h2 with
        | 0, h1, h2 => cases h1; cases h2; exact .u _
        | 1, h1, h2 => cases h1; cases h2; exact .u _
        | 2, h1, h2 => cases h1; cases h2; exact .u _
end
def stK (P : Program) (q : Option SR) (nid : Nat) (o : Oper) (E : EF) (G : EG) : Option SK := match o.op with
  | .next x true => zze o G (evE E x)
  | .range t x => match zum P t o nid G (evE E x) with
    | some q => some (q.k G)
    | none => none
  | _ => match q with
    | some q => some (q.k G)
    | none => none
theorem stK_ok {P : Program} {q : Option SR} {nid : Nat} {o : Oper} {E : EF} {G : EG} (hq : ∀ x, q = some x → SOk P o E G x) {r : SK} (h : stK P q nid o E G = some r) : zer P o E G r := by
  unfold stK at h
  split at h
  · rename_i x ho; exact z0i ho h
  · rename_i t x ho
    split at h <;> cases h
    rename_i q' hq'
    exact (zxo ho hq').k
  · split at h <;> cases h
    exact (hq _ rfl).k
def zif (un : List Nat) (keep : Bool) : List Nat → Nat → List Nat
  | [], _ => []
  | i :: r, j => match eqb (zdz un j) keep with
    | true => zif un keep r (j + 1)
    | false => i :: zif un keep r (j + 1)
def zc6 : List Nat → Bool
  | [] => true
  | x :: r => !(zdz r x) && zc6 r
theorem zax : ∀ {l : List Nat}, zc6 l = true → l.Nodup
  | [], _ => List.nodup_nil
  | x :: r, h => by
    simp only [zc6, wb6, wc5] at h
    refine List.nodup_cons.2 ⟨fun hm => ?_, zax h.2⟩
    rw [zao.2 hm] at h; cases h.1
def zy3 (b : Nat) : List Nat → List Nat
  | [] => []
  | x :: r => match Nat.ble b x with
    | true => x :: zy3 b r
    | false => zy3 b r
def numL : Nat → List Nat → List (Nat × Nat)
  | _, [] => []
  | i, x :: r => (i, x) :: numL (i + 1) r
def upTo : Nat → Nat → List Nat
  | 0, _ => []
  | m + 1, i => i :: upTo m (i + 1)
def zrr (L : List Nat) (b : Nat) (NL : List (Nat × Nat)) : Bool := zc6 (L ++ NL.map Prod.fst) && zc6 (NL.map Prod.snd) && NL.all fun x => Nat.ble b x.2
theorem zsr {L : List Nat} {b : Nat} {NL : List (Nat × Nat)} (h : zrr L b NL = true) : zm5 L b NL := by
  unfold zrr at h
  simp only [wb6, wcz] at h
  exact ⟨zax h.1.1, zax h.1.2, fun x hx => wc0 (h.2 x hx)⟩
def liveUp (G : EG) (b : Nat) : List Nat := V5 G ((upTo b 0).map fun X => (X, 1))
def newL (b nid : Nat) (G' : EG) (s : TS) : Option (List (Nat × Nat)) := match zin G' 1000 (V5 G' (idvT s) ++ liveUp G' b) [] with
  | some ys => some (numL nid (zy3 b ys))
  | none => none
structure IE where
  f : FuncId
  n : Nat
  rs : List ResultVar
  c : Code
  hint : Nat → Option HK
  ctx : Nat
  un : List Nat
def zwt (P : Program) (x : IE) : Prop := ∃ fn, P.funcs[x.f]? = some fn ∧ fn.body = some x.c ∧ fn.ntmps = x.n ∧ fn.results.toList = x.rs ∧ yr P x.f = true
def inlX {β : Type} (P : Program) (x : IE) (L : List Nat) (b nid : Nat) (G : EG) (k : TS → List (Nat × GB) → RT → Option β) : EK β := fun e nx E' G' => match e with
  | .normal => inlR E' G'
  | .ret => inlR E' G'
  | _ => none
where
  inlR (E' : EF) (G' : EG) : Option β := match zjx P x.rs E' G' with
    | none => none
    | some s => match newL b nid G' s with
      | none => none
      | some NL => match zrr L b NL with
        | true => k (Zt (Ve L b G G' NL) s) (zj2 L b G G' NL) ⟨[], L ++ NL.map Prod.fst⟩
        | false => none
noncomputable def z01 (P : Program) (sy : SyT) (fuel : Nat) (x : IE) (cl : Call) (nid : Nat) (E : EF) (G : EG) : Option SK := match zjg E cl with
  | none => none
  | some (f, az) => match Nat.beq f x.f && Nat.ble az.length x.n with
    | false => none
    | true => match zin G 1000 (V5 G (zb9 az)) [] with
      | none => none
      | some seen => match zif x.un true seen 0 with
        | L0 => match L0 ++ zif x.un false seen 0 with
          | L => match zc6 L with
            | false => none
            | true => some ⟨fun k => ql sy fuel x.hint x.ctx L0.length x.n x.c 1 L.length (z05 (z7 (mu1 L L.length G) az)) (inG L G) (inlX P x L L0.length nid G k)⟩
theorem zo1 {β : Type} {P : Program} {x : IE} {L : List Nat} {b nid : Nat} {G : EG} {k : TS → List (Nat × GB) → RT → Option β} {e : Exit} {nx : Nat} {E' : EF} {G' : EG} {r : β} (h : inlX P x L b nid G k e nx E' G' = some r) :
    (e = .normal ∨ e = .ret) ∧ ∃ s NL, zjx P x.rs E' G' = some s ∧ zrr L b NL = true ∧ k (Zt (Ve L b G G' NL) s) (zj2 L b G G' NL) ⟨[], L ++ NL.map Prod.fst⟩ = some r ∧
      ∀ {γ : Type} (k2 : TS → List (Nat × GB) → RT → Option γ), inlX P x L b nid G k2 e nx E' G' = k2 (Zt (Ve L b G G' NL) s) (zj2 L b G G' NL) ⟨[], L ++ NL.map Prod.fst⟩ := by
  have key : ∀ {β : Type} {k : TS → List (Nat × GB) → RT → Option β} {r : β}, inlX.inlR P x L b nid G k E' G' = some r → ∃ s NL, zjx P x.rs E' G' = some s ∧ zrr L b NL = true ∧ k (Zt (Ve L b G G' NL) s) (zj2 L b G G' NL) ⟨[], L ++ NL.map Prod.fst⟩ = some r ∧
      ∀ {γ : Type} (k2 : TS → List (Nat × GB) → RT → Option γ), inlX.inlR P x L b nid G k2 E' G' = k2 (Zt (Ve L b G G' NL) s) (zj2 L b G G' NL) ⟨[], L ++ NL.map Prod.fst⟩ := by
    intro β k r h
    unfold inlX.inlR at h
    split at h <;> try (cases h; done)
    rename_i s hs
    split at h <;> try (cases h; done)
    rename_i NL hN
    split at h <;> try (cases h; done)
    rename_i hx
    exact ⟨s, NL, hs, hx, h, fun k2 => by unfold inlX.inlR; rw [hs]; simp only [hN, hx]⟩
  unfold inlX at h
  split at h
  · obtain ⟨s, NL, h1, h2, h3, h4⟩ := key h
    exact ⟨.inl rfl, s, NL, h1, h2, h3, fun k2 => by unfold inlX; exact h4 k2⟩
  · obtain ⟨s, NL, h1, h2, h3, h4⟩ := key h
    exact ⟨.inr rfl, s, NL, h1, h2, h3, fun k2 => by unfold inlX; exact h4 k2⟩
  · cases h
theorem zq3 {P : Program} {sy : SyT} (hsy : znb P sy) (hm : P.follows .mixedOrders = true) {fuel : Nat} {x : IE} (hx : zwt P x) {o : Oper} {cl : Call} (ho : o.op = .call cl) {nid : Nat} {E : EF} {G : EG} {q : SK} (h : z01 P sy fuel x cl nid E G = some q) : zer P o E G q := by
  obtain ⟨fn, hf, hb, hn, hr, hg⟩ := hx
  unfold z01 at h
  split at h <;> try (cases h; done)
  rename_i f az ht
  split at h <;> try (cases h; done)
  rename_i hfx
  simp only [wb6] at hfx
  have hf1 := ju hfx.1
  have hf2 := wc0 hfx.2
  subst hf1
  split at h <;> try (cases h; done)
  rename_i seen hseen
  simp only at h
  split at h <;> try (cases h; done)
  rename_i hnd
  cases h
  intro β k r hk
  obtain ⟨e, nx', E', G', h1, hu, hoc⟩ := vk hm hsy x.c 1 _ _ _ _ _ hk
  obtain ⟨he, s, NL, hs, hex, hkr, hu2⟩ := zo1 h1
  refine ⟨_, _, _, hkr, fun k2 => ?_, fun id hid => by rw [Yz] at hid; exact hid, fun W n F H hfl hd hF hH => ?_⟩
  · show ql _ _ _ _ _ _ _ _ _ _ _ (inlX P x _ _ nid G k2) = _
    rw [hu]; exact hu2 k2
  · have hag : Agr o E G [] F H := ⟨hF, fun id h => by cases h⟩
    refine wb1 hd ho (zbl ho hag ht) hg hf hb (by rw [hn]; exact hf2) hfl (zsr hex) (zax hnd) (fun i hi => hH i (.inr (by rw [Yz]; exact hi))) he (fun W1 R1 hg1 hr1 => by rw [hn]; exact hoc W1 R1 hg1 hr1) ?_
    rw [hr]; exact hs
def zz8 (it : Nat → Nat → FuncId → Option IE) (ctx site : Nat) (o : Oper) (E : EF) : Option (IE × Call) := match o.op with
  | .call cl => match zjg E cl with
    | some (f, _) => match it ctx site f with
      | some x => some (x, cl)
      | none => none
    | none => none
  | _ => none
theorem zt7 {it : Nat → Nat → FuncId → Option IE} {ctx site : Nat} {o : Oper} {E : EF} {x : IE × Call} (h : zz8 it ctx site o E = some x) : o.op = .call x.2 ∧ ∃ ctx site f, it ctx site f = some x.1 := by
  unfold zz8 at h
  split at h <;> try (cases h; done)
  rename_i cl ho
  split at h <;> try (cases h; done)
  rename_i f az ht
  split at h <;> cases h
  rename_i y hy
  exact ⟨ho, _, _, _, hy⟩
theorem wp_put {P : Program} {o : Oper} {a : Act} {w : World} {K : Act → World → Prop} {Q : Exit → Act → World → Prop} (hh : o.wp P a w K Q) : o.wp P a w (fun a' w' => K a' w' ∧ ∃ v ds, a' = { a with defers := ds }.put o.dst v) Q := by
  unfold Oper.wp at *
  generalize (execOp a.eval o).run P w = r at *
  cases r with
  | ok n w' =>
    cases n <;> simp only [Oper.upon] at hh ⊢ <;>
      first
        | exact ⟨hh, _, _, rfl⟩
        | exact ⟨hh, _, a.defers, rfl⟩
        | exact Calls.mono hh (fun e w'' he => by cases e <;> first | exact ⟨he, _, a.defers, rfl⟩ | exact he)
        | exact Rows.mono hh (fun _ _ he => ⟨he, _, a.defers, rfl⟩)
  | halt x w' => cases x <;> simp only [Oper.upon] at hh ⊢ <;> exact hh
theorem put_at {a : Act} {ds : List Deferred} {d : Option Nat} {v : Value} {t : Nat} (h : d ≠ some t) : ({ a with defers := ds }.put d v : Act).tmps.getD t undef = a.tmps.getD t undef := by
  cases d with
  | none => rfl
  | some d =>
    have e : d ≠ t := fun e => h (by rw [e])
    simp [Act.put, wd3 e]
def ztt (D : List Nat) : Nm → Bool := fun y => match y.rt with
  | some i => zdz D i
  | none => false
def zlr : List (Nat × Ty) → Nat → Option Ty
  | [], _ => none
  | x :: r, t => match Nat.beq x.1 t with
    | true => some x.2
    | false => zlr r t
def z2y (D : List Nat) (sl : List (Nat × Ty)) (E : EF) (G : EG) : EF := fun t => match zlr sl t with
  | none => E t
  | some ty => match yn (J4 D G) ty (E t) with
    | some x => .v ⟨ty, x⟩
    | none => E t
def SR.frz (D : List Nat) (q : SR) : SR := { q with fz := D }
section
variable {P : Program} {W : Env} {n : Nat} {F : PFrame} {H : PHeap} {o : Oper} {E : EF} {G : EG} {D : List Nat}
theorem Qu (hH : ∀ id ∈ D, AgN H G id) : zua H (qf H (zah D G)) (ztt D) := fun y => by
  have key : ∀ i, y.rt = some i → i ∈ D → (qf H (zah D G) y).body = none ∧ (H y).ver ≤ (qf H (zah D G) y).ver := fun i hy hi => by
    have hl : zan D G i = ⟨(G i).cv + 1, none⟩ := by unfold zan; rw [zao.2 hi]
    rw [(zva (D := D) (.inl hi)).at hy, hl, (hH i hi).at hy]
    cases y <;> cases hy
    · exact ⟨rfl, Nat.le_succ_of_le (GB.ver_le _)⟩
    · exact ⟨rfl, Nat.le_succ _⟩
  refine ⟨fun hr => yu fun i hi e => ?_, fun hr => ?_⟩
  · rw [Vr] at hi
    unfold ztt at hr
    rw [e] at hr
    simp only [zao.2 hi] at hr; cases hr
  · unfold ztt at hr
    split at hr
    · rename_i i hy
      exact key i hy (zao.1 hr)
    · cases hr
theorem z29 {id : Nat} (h : AgN H (J4 D G) id) (hs : ((J4 D G) id).b.isSome = true) : AgN (H.only (ztt D)) (J4 D G) id := by
  have hm : zdz D id = true := by
    cases hm : zdz D id with
    | true => rfl
    | false => unfold J4 at hs; rw [hm] at hs; simp at hs
  refine wa8 fun k hk => ?_
  unfold PHeap.only ztt
  rw [hk]
  simp only [hm, if_true]
  exact h.at hk
open Classical in
theorem SOk.frz {sl : List (Nat × Ty)} {q : SR} (hq0 : q.fz = []) (h : SOk P o (z2y D sl E G) (zan D G) q) : SOk P o E G (q.frz D) := by
  obtain ⟨h1, h2⟩ := h
  refine ⟨h1, fun x hx W n F H hfl hd hF hH V a w hr => ?_⟩
  have hD : ∀ id ∈ D, AgN H G id := fun id hid => hH id (.inr (.inr hid))
  have hq : ∀ id, id ∈ q.rd ∨ id ∈ q.tc ∨ id ∈ q.fz → AgN (qf H (zah D G)) (zan D G) id := fun id hid => by
    refine zva ?_
    rcases hid with hid | hid | hid
    · exact .inr (hH id (.inl hid))
    · exact .inr (hH id (.inr (.inl hid)))
    · rw [hq0] at hid; cases hid
  let F1 : PFrame := fun t => match zlr sl t with
    | none => F t
    | some ty => match yn (J4 D G) ty (E t) with
      | some x => if Operand.tmp t ∈ o.op.operands then enc ty x else F t
      | none => F t
  have hF1 : ∀ t, Operand.tmp t ∈ o.op.operands → F1 t = (z2y D sl E G t).den := fun t ht => by
    show (match zlr sl t with | none => F t | some ty => match yn (J4 D G) ty (E t) with | some x => if Operand.tmp t ∈ o.op.operands then enc ty x else F t | none => F t) = _
    unfold z2y
    cases zlr sl t with
    | none => exact hF t ht
    | some ty =>
      simp only
      cases yn (J4 D G) ty (E t) with
      | none => exact hF t ht
      | some x => simp only [if_pos ht, TS.den]
  let W1 : Env := W.push F a
  have hfl1 : FlW W1 F1 (qf H (zah D G)) := by
    refine ⟨fun i => ?_, fun t => ?_, fun k bd hb c hc => ?_⟩
    · simp only [W1, Env.push]
      split
      · exact hfl.f _
      · exact hfl.g _
    · show Fl (match zlr sl t with | none => F t | some ty => match yn (J4 D G) ty (E t) with | some x => if Operand.tmp t ∈ o.op.operands then enc ty x else F t | none => F t)
      split
      · exact hfl.f t
      · split
        · split
          · exact .noP (Qw _ _)
          · exact hfl.f t
        · exact hfl.f t
    · exact hfl.h k bd (zh3 (Qu hD) hb).2 c hc
  have hrel : Rel P W1 n F1 (qf H (zah D G)) V a w := by
    refine ⟨?_, hr.size, hr.defers, fun t => ?_⟩
    · have hl := hr.heap.less (Qu hD)
      refine ⟨hl.below, hl.body, fun i => ?_, hl.apart, hl.zlt, hl.nz⟩
      simp only [W1, Env.push]
      split
      · exact (hr.slot _).less (Qu hD)
      · exact (hr.heap.ghost _).less (Qu hD)
    · show Rp W.Z (qf H (zah D G)) V w (match zlr sl t with | none => F t | some ty => match yn (J4 D G) ty (E t) with | some x => if Operand.tmp t ∈ o.op.operands then enc ty x else F t | none => F t) _
      split
      · exact (hr.slot t).less (Qu hD)
      · rename_i ty hty
        split
        · rename_i x hx
          split
          · rename_i hop
            have hv := (Ja (H := H.only (ztt D)) (fun id hs => ?_) ty (E t) x hx).1
            · have h1 := (hr.slot t).only (D := ztt D)
              rw [hF t hop] at h1
              have h3 := hv P (W.kept H V (ztt D)) V w hr.heap.only _ h1
              refine h3.noP (Qw _ _) (fun b _ hz hz' => hz (yp.2 ?_)) (wb7 _)
              rcases hz' with hz' | ⟨id, h3, h4⟩
              · exact .inl hz'
              · exact .inr ⟨id, (Vs (Qu hD) h3).1, (Vs (Qu hD) h3).2, h4⟩
            · refine z29 (zdj hD id hs) hs
          · exact (hr.slot t).less (Qu hD)
        · exact (hr.slot t).less (Qu hD)
  have hpe := h2 x hx W1 n F1 (qf H (zah D G)) hfl1 hd hF1 hq V a w hrel
  refine Oper.wp_mono (fun a' w' ⟨⟨p, H', V', ⟨hp, hH'⟩, hr'⟩, v, ds, ha⟩ => ?_) (wp_put hpe)
  refine ⟨p, H', V', ⟨hp, ?_⟩, ?_⟩
  · rw [hH']
    show zek (qf (qf H (zah D G)) (zah q.fz (zan D G))) (q.w x) = zek (qf H (zah D G)) (q.w x)
    rw [hq0]; rfl
  · have hg := hr'.heap.ghost
    refine ⟨⟨hr'.heap.below, hr'.heap.body, fun i => ?_, hr'.heap.apart, hr'.heap.zlt, hr'.heap.nz⟩, hr'.size, hr'.defers, fun t => ?_⟩
    · have := hg (2 * i + 1)
      simp only [W1, Env.push, show ¬ ((2 * i + 1) % 2 = 0) by omega, if_false] at this
      rwa [show (2 * i + 1) / 2 = i by omega] at this
    · by_cases e : o.dst = some t
      · have := hr'.slot t
        simp only [PFrame.put, if_pos e] at this ⊢
        exact this
      · simp only [PFrame.put, if_neg e]
        have := hg (2 * t)
        simp only [W1, Env.push, Nat.mul_mod_right, if_true] at this
        rw [show 2 * t / 2 = t by omega] at this
        rw [ha, put_at e]; exact this
end
def z04 (P : Program) (prs : Nat → Prm) (fz : Nat → Nat → List (Nat × Ty)) : Sy1 := fun ctx nid site o E G => match fz ctx site with
  | [] => zv8 P (prs ctx) ctx nid site o E G
  | sl => match zin G 1000 (V5 G (zb9 (sl.map fun x => E x.1))) [] with
    | none => none
    | some D => match zc6 D with
      | false => none
      | true => match zv8 P (prs ctx) ctx nid site o (z2y D sl E G) (zan D G) with
        | some q => match q.fz with
          | [] => some (q.frz D)
          | _ => none
        | none => none
theorem z1f {P : Program} {prs : Nat → Prm} {fz : Nat → Nat → List (Nat × Ty)} (hS : ∀ c, Qh P (prs c).S) (hzt : ∀ c, zai P (prs c).zt) (hzt2 : ∀ c, zai P (prs c).zt2) : ∀ ctx nid site o E G q, z04 P prs fz ctx nid site o E G = some q → SOk P o E G q := fun ctx nid site o E G q h => by
  unfold z04 at h
  split at h
  · exact zs8 (hS _) (hzt _) (hzt2 _) _ _ _ _ _ _ _ h
  · split at h <;> try (cases h; done)
    rename_i D hD
    split at h <;> try (cases h; done)
    split at h <;> try (cases h; done)
    rename_i q' hq'
    split at h <;> cases h
    rename_i hz
    exact SOk.frz hz (zs8 (hS _) (hzt _) (hzt2 _) _ _ _ _ _ _ _ hq')
theorem flatI (l : List Int) : l.flatMap (je (.int .i64)) = l.map I := by
  induction l with
  | nil => rfl
  | cons a l ih => rw [wci, ih]; rfl
theorem zry (i tid v : Nat) (l : List Int) : qr i ⟨v, some (.row tid (.int .i64) l)⟩ = ⟨v, some (.row tid 1 l.length (l.map I))⟩ :=
  congrArg (fun cs => (⟨v, some (.row tid 1 l.length cs)⟩ : zd4)) (flatI l)
def zmt (G : EG) (x : TS) : Option (Nat × Nat × List Int) := match x with
  | .own id ver => match Nat.beq (G id).ver ver with
    | true => match (G id).b with
      | some (.row tid t l) => match Nat.beq tid 3 with
        | true => match Dyn.as ⟨.sl t, l⟩ (.sl (.int .i64)) with
          | some l => some (id, ver, l)
          | none => none
        | false => none
      | _ => none
    | false => none
  | _ => none
theorem zh9 {G : EG} {x : TS} {r : Nat × Nat × List Int} (h : zmt G x = some r) : x = .own r.1 r.2.1 ∧ G r.1 = ⟨r.2.1, some (.row 3 (.int .i64) r.2.2)⟩ := by
  unfold zmt at h
  split at h <;> try (cases h; done)
  rename_i id ver
  split at h <;> try (cases h; done)
  rename_i hv
  split at h <;> try (cases h; done)
  rename_i tid t l hb
  split at h <;> try (cases h; done)
  rename_i ht
  split at h <;> cases h
  rename_i l' hl
  have := wac hl
  injection this with e1 e2
  injection e1 with e1
  subst e1
  have e2 := eq_of_heq e2
  subst e2
  refine ⟨rfl, ?_⟩
  simp only
  cases hG : G id with
  | mk v b =>
    rw [hG] at hv hb
    simp only at hv hb
    rw [ju hv, hb, ju ht]
def zye (l : List Int) : BD := .row 3 (.int .i64) l
noncomputable def z41 (o : Oper) (nid : Nat) (G : EG) (f : FuncId) (x : TS) : Option SR := match Nat.beq f 243 with
  | true => match zmt G x with
    | some r => some ⟨List Int, false, Jn r.2.2 (zcc r.2.2), fun _ => .c (.tuple #[]), fun ys => [(r.1, ⟨r.2.1, some (zye ys)⟩)], [], [r.1], []⟩
    | none => none
  | false => match Nat.beq f 244 with
    | true => match zmt G x with
      | some r => some ⟨List Int, false, Jn r.2.2 (zaq r.2.2), fun _ => .own r.1 (r.2.1 + 1), fun ys => [(r.1, ⟨r.2.1 + 1, some (zye ys)⟩)], [], [r.1], []⟩
      | none => none
    | false => match Nat.beq f 33 with
      | true => match vz o with
        | true => match zlx x with
          | true => match toT (.sl (.int .i64)) x with
            | some l => some ⟨List Int, false, Jn l l, fun _ => .own nid ((G nid).ver + 1), fun ys => [(nid, ⟨(G nid).ver + 1, some (zye ys)⟩)], [], [nid], []⟩
            | none => none
          | false => match zmt G x with
            | some r => match Nat.beq r.1 nid with
              | true => none
              | false => some ⟨List Int, false, Jn r.2.2 r.2.2, fun _ => .own nid ((G nid).ver + 1), fun ys => [(nid, ⟨(G nid).ver + 1, some (zye ys)⟩)], [r.1], [nid], []⟩
            | none => none
        | false => none
      | false => none
def zcp {α : Type} (l : List α) (z : Int) : Option (List α) := match decide (0 ≤ z) && decide (z ≤ l.length) with
  | true => some (l.take z.toNat)
  | false => none
noncomputable def zu5 (es : Option Nat) (o : Oper) (G : EG) (x y : TS) : Option SR := match vz o with
  | false => none
  | true => match x with
    | .own id ver => match Nat.beq (G id).ver ver with
      | true => match (G id).b with
        | some (.row tid t l) => match oeq es (some (wid t)) with
          | true => q3 (Zo y) fun z => some ⟨List t.D, false, zcp l z, fun _ => .own id (ver + 1), fun l' => [(id, ⟨ver + 1, some (.row tid t l')⟩)], [], [id], []⟩
          | false => none
        | _ => none
      | false => none
    | _ => none
noncomputable def z1r (ty : TypeId) (x i : TS) : Option SR := match x with
  | .v ⟨.arr n t, a⟩ => match arr Tryz.prog ty with
    | some (n', k) => match z1q Tryz.prog ty with
      | some e => match asz Tryz.prog e with
        | some (ag, k') => match Nat.beq n' n && Nat.beq k (wid t) && Nat.beq k' k && (ag || Nat.beq k 1) with
          | true => q3 (Zo i) fun z => some (.dat t.D (atL a.l z) (fun y => Yd ag [.v ⟨t, y⟩]) [])
          | false => none
        | none => none
      | none => none
    | none => none
  | _ => none
noncomputable def sLib (o : Oper) (nid : Nat) (E : EF) (G : EG) : Option SR := match o.op with
  | .index t x i => z1r t (evE E x) (evE E i)
  | .slice t x none (some y) none => zu5 (esz Tryz.prog t) o G (evE E x) (evE E y)
  | .call ⟨.value (.func f), ⟨[x]⟩, _⟩ => z41 o nid G f (evE E x)
  | _ => none
section
variable {P : Program} {o : Oper} {E : EF} {G : EG}
set_option maxRecDepth 100000 in
theorem zzr {ty : TypeId} {x i : Operand} {q : SR} (ho : o.op = .index ty x i) (h : z1r ty (evE E x) (evE E i) = some q) : SOk Tryz.prog o E G q := by
  have hx' : x ∈ o.op.operands := by rw [ho]; simp [Op.operands]
  have hi' : i ∈ o.op.operands := by rw [ho]; simp [Op.operands]
  unfold z1r at h
  split at h <;> try (cases h; done)
  rename_i n t a hx
  split at h <;> try (cases h; done)
  rename_i n' k har
  split at h <;> try (cases h; done)
  rename_i e hae
  split at h <;> try (cases h; done)
  rename_i ag k' hsz
  split at h <;> try (cases h; done)
  rename_i hb
  simp only [wb6] at hb
  obtain ⟨⟨⟨h1, h2⟩, h3⟩, h4⟩ := hb
  have h1 := ju h1
  have h2 := ju h2
  have h3 := ju h3
  subst h1; subst h2; subst h3
  obtain ⟨z, hz, h⟩ := jt h
  cases h
  obtain ⟨kd, hkd⟩ := Jm hz
  refine SOk.dat fun y hy W F H hag => ?_
  obtain ⟨h0, hyz⟩ := z6 hy
  obtain ⟨rest, hr⟩ := Yv (je t) (wid t) a.l (fun x _ => jn t x) _ _ hyz
  obtain ⟨p, hp1, hp2⟩ := zvq (ag := ag) (k := wid t) (xs := [.v ⟨t, y⟩]) (rest := rest) (by simp only [jo, TS.den, qc, wcl, jn]) (fun e => by rw [e] at h4; simp at h4; exact h4)
  refine PQ.ref (qe ?_) hp2
  unfold zj; rw [ho]
  simp only
  rw [hag.ev hx', hag.ev hi', hkd, hx]
  simp only [TS.den]
  have hlt : z.toNat < n' := by
    have := (wb3.1 hyz).1
    rw [a.h] at this; exact this
  have hd : jo [.v ⟨t, y⟩] = je t y := by simp only [jo, TS.den, qc, wcl]
  rw [hd, ← hr] at hp1
  show ze0 Tryz.prog ty (.agg (a.l.flatMap (je t))) (.u (.int kd z)) = some p
  unfold ze0
  simp only [har, hae]
  rw [if_pos ⟨h0, hlt⟩]
  unfold zo3
  rw [hsz]
  exact hp1
set_option maxRecDepth 100000 in
theorem zw0 {t : TypeId} {x y : Operand} {q : SR} (ho : o.op = .slice t x none (some y) none) (h : zu5 (esz Tryz.prog t) o G (evE E x) (evE E y) = some q) : SOk Tryz.prog o E G q := by
  have hev : ∀ {F : PFrame} {z : Operand}, z ∈ o.op.operands → (∀ t, Operand.tmp t ∈ o.op.operands → F t = (E t).den) → evP F z = (evE E z).den := fun {F z} hz hF => (Agr.mk (rd := []) (G := G) (H := waa) hF (fun id h => by cases h)).ev hz
  unfold zu5 at h
  split at h <;> try (cases h; done)
  rename_i hds
  obtain ⟨d, hds⟩ := qz hds
  split at h <;> try (cases h; done)
  rename_i id ver hx
  split at h <;> try (cases h; done)
  rename_i hv
  have hv := ju hv
  split at h <;> try (cases h; done)
  rename_i tid ty l hb
  split at h <;> try (cases h; done)
  rename_i hes
  have hes := za6 hes
  obtain ⟨z, hz, h⟩ := jt h
  cases h
  obtain ⟨kd, hkd⟩ := Jm hz
  refine ⟨fun _ => rfl, fun l' hl W n F H hfl hd hF hH => ?_⟩
  unfold zcp at hl
  split at hl <;> cases hl
  rename_i hb2
  simp only [wb6, wc9] at hb2
  obtain ⟨j, rfl⟩ : ∃ j : Nat, z = j := ⟨z.toNat, by omega⟩
  have hj : j ≤ l.length := by omega
  have hHid := hH id (.inr (by simp))
  refine wbw (id := .o id) (kd := kd) (j := j) ho hds (hd d hds) hes (by rw [hev (by rw [ho]; simp [Op.operands]) hF, hx]; simp only [TS.den]) (yb hHid.1 hb rfl hv) (by rw [hev (by rw [ho]; simp [Op.operands]) hF, hkd]) hj ⟨by simp only [TS.den], ?_⟩
  show _ = H.set (.o id) (qr id _)
  simp only [qr, wcd, BD.den, Int.toNat_natCast]
  have e1 : (l.take j).length = j := by rw [wdf]; omega
  have e2 : (l.flatMap (je ty)).take (j * wid ty) = (l.take j).flatMap (je ty) := by
    have e3 : l.flatMap (je ty) = (l.take j).flatMap (je ty) ++ (l.drop j).flatMap (je ty) := by rw [← wdc, wd2]
    have e4 : ((l.take j).flatMap (je ty)).length = j * wid ty := by rw [ye _ (wid ty) _ fun x _ => jn ty x, e1]
    rw [e3, wed e4]
  rw [e1, e2]
theorem z2c {nid : Nat} {q : SR} (h : sLib o nid E G = some q) : SOk Tryz.prog o E G q := by
  unfold sLib at h
  split at h <;> try (cases h; done)
  · rename_i ho; exact zzr ho h
  · rename_i ho; exact zw0 ho h
  rename_i f x ts ho
  have hx' : x ∈ o.op.operands := by rw [ho]; simp [Op.operands, Call.operands]
  have hev : ∀ {F : PFrame}, (∀ t, Operand.tmp t ∈ o.op.operands → F t = (E t).den) → evP F x = (evE E x).den := fun {F} hF => (Agr.mk (rd := []) (G := G) (H := waa) hF (fun id h => by cases h)).ev hx'
  have hrow : ∀ {H : PHeap} {r : Nat × Nat × List Int}, G r.1 = ⟨r.2.1, some (.row 3 (.int .i64) r.2.2)⟩ → AgN H G r.1 → H (.o r.1) = ⟨r.2.1, some (.row 3 1 r.2.2.length (r.2.2.map I))⟩ := fun {H r} hG hH => by
    rw [hH.1, hG]; exact zry _ _ _ _
  have hset : ∀ {H : PHeap} {id v : Nat} {ys : List Int}, H.set (.o id) ⟨v, some (.row 3 1 ys.length (ys.map I))⟩ = zek H [(id, ⟨v, some (zye ys)⟩)] := fun {H id v ys} => congrArg (fun b => H.set (.o id) b) (zry _ _ _ _).symm
  unfold z41 at h
  split at h
  · rename_i hf
    have hf := ju hf
    subst hf
    split at h <;> cases h
    rename_i r hr
    obtain ⟨h1, h2⟩ := zh9 hr
    refine ⟨fun _ => rfl, fun ys hy W n F H hfl hd hF hH => ?_⟩
    obtain ⟨hl, rfl⟩ := zcy hy
    have hlen : (zcc r.2.2).length = r.2.2.length := List.length_mergeSort _
    refine wa3 (d := 0) (back := false) (id := .o r.1) (ver := r.2.1) (xs := r.2.2) (ys := zcc r.2.2) ho hd (by kernel_rfl) ?_ (hrow h2 (hH _ (.inr (by simp)))) (fun v B w hv => (zz5 v r.2.2 B w hv hl).mono fun e w' ⟨h1, h2, h3⟩ => ⟨_, v, h1, by rw [hlen]; exact h2, h3, fun g hg => hg, by simp⟩) ?_
    · rw [hev hF, h1]; simp only [TS.den]
    · simp only [wdi, if_false]
      exact ⟨by simp only [TS.den]; rfl, hset⟩
  · split at h
    · rename_i hf
      have hf := ju hf
      subst hf
      split at h <;> cases h
      rename_i r hr
      obtain ⟨h1, h2⟩ := zh9 hr
      refine ⟨fun _ => rfl, fun ys hy W n F H hfl hd hF hH => ?_⟩
      obtain ⟨hl, rfl⟩ := zcy hy
      refine wa3 (d := 0) (back := true) (id := .o r.1) (ver := r.2.1) (xs := r.2.2) (ys := zaq r.2.2) ho hd (by kernel_rfl) ?_ (hrow h2 (hH _ (.inr (by simp)))) (fun v B w hv => (ztj v r.2.2 B w hv hl).mono fun e w' ⟨v', h1, h2, h3, h4⟩ => ⟨v', v', h1, h2, h3, h4, by simp⟩) ?_
      · rw [hev hF, h1]; simp only [TS.den]
      · simp only [if_true]
        exact ⟨by simp only [TS.den], hset⟩
    · split at h <;> try (cases h; done)
      rename_i hf
      have hf := ju hf
      subst hf
      split at h <;> try (cases h; done)
      rename_i hds
      obtain ⟨d, hds⟩ := qz hds
      have key : ∀ {l : List Int} {rd : List Nat}, (∀ {W n F H}, FlW W F H → Jc n o → (∀ t, Operand.tmp t ∈ o.op.operands → F t = (E t).den) → (∀ id, id ∈ rd ∨ id ∈ [nid] ∨ id ∈ [] → AgN H G id) → View H (evE E x).den (slI l)) → SOk Tryz.prog o E G ⟨List Int, false, Jn l l, fun _ => .own nid ((G nid).ver + 1), fun ys => [(nid, ⟨(G nid).ver + 1, some (zye ys)⟩)], rd, [nid], []⟩ := fun {l rd} hv => by
        refine ⟨fun _ => rfl, fun ys hy W n F H hfl hd hF hH => ?_⟩
        obtain ⟨hl, hye⟩ := zcy hy
        cases hye
        have hnid := hH nid (.inr (by simp))
        have hvw := hv hfl hd hF hH
        have htg : Q8 F ⟨.value (.func 33), #[x], ts⟩ = some (33, [evP F x]) := by rw [zih]; rfl
        refine wbg (id := .o nid) hds (hd d hds) ho htg (by kernel_rfl) (qs := [slI l]) ⟨rfl, fun i p q h1 h2 => ?_⟩ (zxs hl) fun m us hR hl2 => ?_
        · cases i with
          | zero => simp at h1 h2; subst h1 h2; rw [hev hF]; exact hvw
          | succ i => simp at h1
        · obtain ⟨rfl, rfl⟩ := hR
          have e : (H (.o nid)).ver = (G nid).ver := by rw [hnid.1]; rfl
          refine ⟨by simp only [TS.den, e], ?_⟩
          rw [e]
          refine Eq.trans ?_ hset
          rw [wc7]; rfl
      split at h
      · rename_i hni
        split at h <;> cases h
        rename_i l hl
        refine key fun {W n F H} hfl hd hF hH => ?_
        have := (Qr _ _ _ hl).2
        exact View.ref (View.noP (zvv _ hni)) this
      · split at h <;> try (cases h; done)
        rename_i r hr
        obtain ⟨h1, h2⟩ := zh9 hr
        split at h <;> cases h
        refine key fun {W n F H} hfl hd hF hH => ?_
        have hv := (Ja (G := J4 [r.1] G) (H := H) (zdj fun id hid => hH _ (.inl hid)) (.sl (.int .i64)) (evE E x) r.2.2 ?_).1
        · exact hv
        · rw [h1]
          simp only [yn, J4]
          have : zdz [r.1] r.1 = true := zao.2 (by simp)
          simp only [this, h2, wdm, Dyn.as]
          rfl
end
noncomputable def zzm (prs : Nat → Prm) (fz : Nat → Nat → List (Nat × Ty)) : Sy1 := fun ctx nid site o E G => match sLib o nid E G with
  | some q => some q
  | none => z04 Tryz.prog prs fz ctx nid site o E G
theorem zyx {prs : Nat → Prm} {fz : Nat → Nat → List (Nat × Ty)} (hS : ∀ c, Qh Tryz.prog (prs c).S) (hzt : ∀ c, zai Tryz.prog (prs c).zt) (hzt2 : ∀ c, zai Tryz.prog (prs c).zt2) : ∀ ctx nid site o E G q, zzm prs fz ctx nid site o E G = some q → SOk Tryz.prog o E G q := fun ctx nid site o E G q h => by
  unfold zzm at h
  split at h
  · rename_i q' hq; cases h; exact z2c hq
  · exact z1f hS hzt hzt2 _ _ _ _ _ _ _ h
section
variable {P : Program} {W : Env} {n : Nat} {F : PFrame} {H : PHeap}
theorem wa5 {o : Oper} {c : Call} {ps qs : List PV} {f : FuncId} {t : TypeId} {kk d : Nat} {id : Nm} {xs : List PV} {k : PV → PHeap → Prop} (hd : o.dst = some d) (hdn : d < n) (ho : o.op = .call c) (ht : Q8 F c = some (f, ps)) (hf : yr P f = true) (hv : ViewL H ps qs) (hn : ∀ p ∈ qs, NoF p) (hc : PCall P f qs (· = .fr t kk xs)) (hs : ∀ p ∈ xs.flatMap PV.cells, Sc p)
    (hk : k (.ps id ((H id).ver + 1)) (H.set id ⟨(H id).ver + 1, some (.row t kk xs.length (xs.flatMap PV.cells))⟩)) : PE P W n o F H k := fun V a w hr => by
  obtain ⟨vs, he, hR⟩ := Qf (P := P) (W := W) (H := H) (V := V) (a := a) (w := w) ho ht hf fun x hx' => Rp.eval (P := P) x fun t ht => hr.slot t
  have hsz := hr.heap.below.size
  have hR1 := hR.view hr.heap hv
  have hR2 : RpL ⟨W.Z.z, w.heap.size⟩ waa V0 w qs vs := ⟨hR1.1, fun i p v h1 h2 => (hR1.2 i p v h1 h2).noF (hn p (wb8 h1)) fun b _ hz hz' => hz (yp.2 (yp.1 hz'))⟩
  refine zb0 he ((hc ⟨W.Z.z, w.heap.size⟩ w vs hr.heap.gw (wat hr.heap) (wb7 _) hR2).mono fun e w' ⟨v, p, h1, h2, hnp, h3, hb⟩ => ⟨v, h1, ?_⟩)
  subst h2
  cases h3 with
  | fr _ _ _ _ vals hu ho2 hz h4 h5 =>
    refine ⟨_, _, vg V id v, hk, ?_⟩
    have hnew : ∀ g, jv v = some g → w.heap.size ≤ g := fun g hg => (Jg ho2 hg).1
    have hown : w'.ownsRow W.w.heap.size t kk v xs.length vals := ⟨ho2.1, by
      rcases ho2.2 with h6 | ⟨g, cap, cur, e, hg, r⟩
      · exact .inl h6
      · exact .inr ⟨g, cap, cur, e, wdo hsz hg, r⟩⟩
    have hturn := Turn.new (b' := ⟨(H id).ver + 1, some (.row t kk xs.length (xs.flatMap PV.cells))⟩) (id := id) (v0 := v) hr.heap hb rfl hnew
    refine hr.turn hturn (fun bd hbd => ?_) o.dst (fun t ht => by rw [hd] at ht; cases ht; exact hdn) ?_
    · cases hbd
      refine ⟨vals, hown, ⟨?_, fun i p u hi hj => ?_⟩, h4⟩
      · rw [Zy xs hu, ho2.1]
      · exact (h5 i p u hi hj).sc (hs p (wb8 hi))
    · refine .ps _ _ _ ?_ fun _ _ => ?_
      · simp [PHeap.set]
      · simp [vg]
theorem wbe {id : Nm} {ver k : Nat} {t : TypeId} {xs : List PV} (hl : yh H id ver = some (t, k, xs.length, xs.flatMap PV.cells)) (hu : ∀ y ∈ xs, y.cells.length = k) (hn : ∀ c ∈ xs.flatMap PV.cells, NoP c) : View H (.ps id ver) (.fr t k xs) := fun P W V w hr v hv => by
  obtain ⟨hb, hve⟩ := yc hl
  obtain ⟨vals, ho, hR, h1⟩ := hr.row id _ _ _ _ hb
  cases hv with
  | ps _ _ _ hvv hh =>
    have e := hh (by rw [hb]; rfl) hve
    subst e
    refine .fr t k xs _ vals hu (yy (w' := w) ho W.hm fun _ _ _ => rfl) (fun b hb2 hz => ?_) h1 fun i p u h3 h4 => (hR.2 i p u h3 h4).noP (hn p (wb8 h3)) fun b _ hz hz' => hz (.inl (yp.1 hz'))
    exact hr.nz id b (by rw [hb]; rfl) hb2 (yp.1 hz)
end
def zm3 (G : EG) (e : TypeId) (t : Ty) (s : TS) : Option (List t.D) := match s with
  | .own id ver => match Nat.beq (G id).ver ver with
    | true => match (G id).b with
      | some (.row tid t' l) => match Nat.beq tid e with
        | true => Dyn.as ⟨.sl t', l⟩ (.sl t)
        | false => none
      | _ => none
    | false => none
  | .c v => match zxx v with
    | true => some []
    | false => none
  | _ => none
theorem zw7 {G : EG} {e : TypeId} {t : Ty} {s : TS} {l : List t.D} {H : PHeap} (hG : ∀ id, (G id).b.isSome = true → AgN H G id) (h : zm3 G e t s = some l) : View H s.den (.fr e (wid t) (l.map (enc t))) := by
  unfold zm3 at h
  split at h <;> try (cases h; done)
  · rename_i id ver
    split at h <;> try (cases h; done)
    rename_i hv
    have hv := ju hv
    split at h <;> try (cases h; done)
    rename_i tid t' l' hb
    split at h <;> try (cases h; done)
    rename_i ht
    have ht := ju ht
    subst ht
    have := wac h
    injection this with e1 e2
    injection e1 with e1
    subst e1
    have e2 := eq_of_heq e2
    subst e2
    simp only [TS.den]
    refine wbe (yb (hG id (by rw [hb]; rfl)).1 hb (by simp only [BD.den, wcs, Jl]) hv) (fun y hy => ?_) fun c hc => ?_
    · obtain ⟨z, _, rfl⟩ := wcf.1 hy; rw [qc, jn]
    · rw [Jl] at hc
      obtain ⟨z, _, hz⟩ := wcu.1 hc
      exact q7 _ _ _ hz
  · split at h <;> cases h
    rename_i v hn
    rw [zkp hn]
    simp only [TS.den, wdh]
    exact wbf
noncomputable def funF (P : Program) (sy : SyT) (hint : Nat → Option HK) (n : Nat) (rs : List ResultVar) (c : Code) (ats : List Ty) (e : TypeId) (rt : Ty) (nn : Nat) (t : DL ats) : Option (List rt.D) :=
  ql sy nn hint 0 0 n c 1 0 (zw3 (vq ats t)) waj fun ex _ E G => match ex with
    | .normal => match zjx P rs E G with
      | some s => zm3 G e rt s
      | none => none
    | .ret => match zjx P rs E G with
      | some s => zm3 G e rt s
      | none => none
    | _ => none
def zgg (P : Program) (f : FuncId) (ats : List Ty) (e : TypeId) (rt : Ty) (g : DL ats → Option (List rt.D)) : Prop :=
  yr P f = true ∧ ∀ t r, g t = some r → PCall P f (pvs (vq ats t)) (· = .fr e (wid rt) (r.map (enc rt)))
theorem z4f {P : Program} {sy : SyT} (hsy : znb P sy) (hm : P.follows .mixedOrders = true) {hint : Nat → Option HK} {n : Nat} {rs : List ResultVar} {c : Code} {ats : List Ty} {ee : TypeId} {rt : Ty} {nn : Nat} {f : FuncId} {fn : Func} (hf : P.funcs[f]? = some fn) (hb : fn.body = some c) (hn : fn.ntmps = n) (hr : fn.results.toList = rs) (hl : Nat.ble ats.length n = true) (hg : yr P f = true) : zgg P f ats ee rt (funF P sy hint n rs c ats ee rt nn) := by
  subst hn; subst hr
  refine ⟨hg, fun t r h => ?_⟩
  have hl' : (pvs (vq ats t)).length ≤ fn.ntmps := by unfold pvs; rw [wcs, zks]; exact wc0 hl
  refine war hf hb hl' fun W hW => ?_
  have hR : RestOk 0 R0 := fun i bd h => by cases h
  have hGh : GhOk 0 W := fun i => by rw [hW]; exact .unk
  obtain ⟨e, nx, E', G', h3, _, ho⟩ := vk (P := P) (fuel := nn) (hint := hint) (ctx := 0) (n := fn.ntmps) (b := 0) hm hsy c 1 0 (zw3 (vq ats t)) waj _ r h
  have this := ho W R0 hGh hR
  rw [zop] at this
  rw [zmi]
  refine PC.mono this fun e2 F' H' ⟨h0, h1, h2⟩ => ?_
  subst h0; subst h1; subst h2
  have key : ∀ {o : Option TS}, o = zjx P fn.results.toList E' G' → (match o with
      | some s => zm3 G' ee rt s
      | none => none) = some r → ∃ q p, zvf P fn (v6 E') (qd G' R0) = some q ∧ View (qd G' R0) q p ∧ NoP p ∧ p = .fr ee (wid rt) (r.map (enc rt)) := fun {o} ho h => by
    cases o with
    | none => cases h
    | some s =>
      simp only at h
      obtain ⟨q, hq, hrq⟩ := zqk (R := R0) ho.symm
      have hv := zw7 (H := qd G' R0) (fun id _ => ⟨rfl, fun j => rfl⟩) h
      exact ⟨q, _, hq, fun P W V w hw v hv' => hv P W V w hw v (hrq _ _ _ _ _ hv'), .fr _ _ _ fun c hc => by obtain ⟨z, _, rfl⟩ := wcf.1 hc; exact Qw _ _, rfl⟩
  cases e2 with
  | normal => exact ⟨.inl rfl, key rfl h3⟩
  | ret => exact ⟨.inr rfl, key rfl h3⟩
  | _ => cases h3
theorem zpx {t : Ty} {cs : List PV} (h : ∀ c ∈ cs, NoF c) (hn : zq t = false → cs ≠ []) : NoF (mkV t cs) := by
  unfold mkV
  cases ha : zq t with
  | true => exact .agg _ h
  | false =>
    match cs, hn ha with
    | c :: r, _ => exact h c (by simp)
theorem Yg : ∀ (t : Ty) (x : t.D), ∀ c ∈ je t x, NoF c
  | .int _, _, c, h => by simp only [je, wcb] at h; subst h; exact .u _
  | .bool, _, c, h => by simp only [je, wcb] at h; subst h; exact .u _
  | .str, _, c, h => by simp only [je, wcb] at h; subst h; exact .u _
  | .sl t, l, c, h => by
    simp only [je, wcb] at h; subst h
    refine .sl _ _ fun c hc => ?_
    obtain ⟨x, _, rfl⟩ := wcf.1 hc
    exact zpx (Yg t x) (zkn x)
  | .ref t, o, c, h => by
    simp only [je, wcb] at h; subst h
    cases o with
    | none => exact .u _
    | some x => exact .rp _ (Yg t x)
  | .arr n t, v, c, h => by
    simp only [je] at h
    obtain ⟨x, _, hx⟩ := wcu.1 h
    exact Yg t x c hx
  | .nil, _, c, h => by simp [je] at h
  | .cons a r, x, c, h => by
    simp only [je, wcr] at h
    rcases h with h | h
    · exact Yg a _ c h
    · exact Yg r _ c h
  | .st r, x, c, h => by simp only [je] at h; exact Yg r _ c h
  | .tup r, x, c, h => by
    simp only [je, wcb] at h; subst h
    exact .tup _ (zex r _ (jn r x) (Yg r x) fun h1 h2 => zpx h1 h2)
theorem z3n (t : Ty) (x : t.D) : NoF (enc t x) := zpx (Yg t x) (zkn x)
structure FF where
  ats : List Ty
  e : TypeId
  rt : Ty
  g : DL ats → Option (List rt.D)
def zaf (P : Program) (T : FuncId → Option FF) : Prop := ∀ f x, T f = some x → zgg P f x.ats x.e x.rt x.g
def zvh (T : FuncId → Option FF) (o : Oper) (nid : Nat) (E : EF) (G : EG) (c : Call) : Option SR := match vz o with
  | false => none
  | true => match zjg E c with
    | none => none
    | some (f, az) => match T f with
      | none => none
      | some x => match scT x.rt with
        | false => none
        | true => match zin G 1000 (V5 G (zb9 az)) [] with
          | none => none
          | some D => match rdV (J4 D G) x.ats az with
            | some t => some ⟨List x.rt.D, false, x.g t, fun _ => .own nid ((G nid).ver + 1), fun l => [(nid, ⟨(G nid).ver + 1, some (.row x.e x.rt l)⟩)], D, [nid], []⟩
            | none => none
theorem zx7 {P : Program} {T : FuncId → Option FF} (hT : zaf P T) {o : Oper} {nid : Nat} {E : EF} {G : EG} {c : Call} {q : SR} (ho : o.op = .call c) (h : zvh T o nid E G c = some q) : SOk P o E G q := by
  unfold zvh at h
  split at h <;> try (cases h; done)
  rename_i hds
  obtain ⟨d, hds⟩ := qz hds
  split at h <;> try (cases h; done)
  rename_i f az ht
  split at h <;> try (cases h; done)
  rename_i x hx
  split at h <;> try (cases h; done)
  rename_i hsc
  split at h <;> try (cases h; done)
  rename_i D hD
  split at h <;> cases h
  rename_i t hrd
  obtain ⟨hg, hc⟩ := hT f x hx
  refine ⟨fun _ => rfl, fun r hr W n F H hfl hd hF hH => ?_⟩
  have hv := zt8 (H := H) (zdj fun id hid => hH id (.inl hid)) hrd
  have hag : Agr o E G D F H := ⟨hF, fun id hid => hH id (.inl hid)⟩
  have hnid := hH nid (.inr (by simp))
  have e : (H (.o nid)).ver = (G nid).ver := by rw [hnid.1]; rfl
  refine wa5 (id := .o nid) hds (hd d hds) ho (zbl ho hag ht) hg hv (fun p hp => ?_) (hc t r hr) (fun p hp => ?_) ⟨by simp only [TS.den, e], ?_⟩
  · unfold pvs at hp
    obtain ⟨y, _, rfl⟩ := wcf.1 hp
    exact z3n _ _
  · rw [Jl] at hp
    obtain ⟨z, _, hz⟩ := wcu.1 hp
    exact zb3 _ _ hsc p hz
  · show _ = H.set (.o nid) (qr nid _)
    simp only [qr, wcd, BD.den, e, Jl, wcs]
noncomputable def zzf (prs : Nat → Prm) (fz : Nat → Nat → List (Nat × Ty)) (fr : Nat → Nat → Bool) (T : FuncId → Option FF) : Sy1 := fun ctx nid site o E G => match fr ctx site with
  | true => match o.op with
    | .call c => zvh T o nid E G c
    | _ => none
  | false => zzm prs fz ctx nid site o E G
theorem z1p {prs : Nat → Prm} {fz : Nat → Nat → List (Nat × Ty)} {fr : Nat → Nat → Bool} {T : FuncId → Option FF} (hT : zaf Tryz.prog T) (hS : ∀ c, Qh Tryz.prog (prs c).S) (hzt : ∀ c, zai Tryz.prog (prs c).zt) (hzt2 : ∀ c, zai Tryz.prog (prs c).zt2) : ∀ ctx nid site o E G q, zzf prs fz fr T ctx nid site o E G = some q → SOk Tryz.prog o E G q := fun ctx nid site o E G q h => by
  unfold zzf at h
  split at h
  · split at h <;> try (cases h; done)
    rename_i c ho
    exact zx7 hT ho h
  · exact zyx hS hzt hzt2 _ _ _ _ _ _ _ h
theorem rp_ofV {Z : ZM} {H : PHeap} {V : Nm → Value} {w : World} {u v : Value} (h : Rp Z H V w (ofV u) v) : v = u := by
  cases u with
  | agg vs =>
    simp only [ofV] at h
    cases h with
    | agg _ us hl hc =>
      congr 1
      simp only [wcs, Array.length_toList] at hl
      refine Array.ext (by omega) fun i h1 h2 => ?_
      have := hc i (.u vs[i]) us[i] (by simp [h2]) (wcn h1)
      generalize us[i] = y at this
      generalize vs[i] = z at this
      cases this; rfl
  | _ => simp only [ofV] at h; cases h; rfl
theorem zr3 {t : Ty} {x : t.D} {Z : ZM} {H : PHeap} {V : Nm → Value} {w : World} {v : Value} (h : plT t = true) (hv : Rp Z H V w (enc t x) v) : v = oV t x := by
  rw [zlv t x h] at hv; exact rp_ofV hv
def zgr {α β : Type} (eqb : α → α → Bool) : List (α × β × Unit) → α → Option β
  | [], _ => none
  | e :: r, k => match eqb k e.1 with
    | true => some e.2.1
    | false => zgr eqb r k
def zis {α β : Type} (eqb : α → α → Bool) : List (α × β × Unit) → α → β → List (α × β × Unit)
  | [], k, v => [(k, v, ())]
  | e :: r, k, v => match eqb k e.1 with
    | true => (k, v, ()) :: r
    | false => e :: zis eqb r k v
def gD {β : Type} (z : β) : Option β → β
  | some x => x
  | none => z
def ent {α β : Type} (e : α × β × Unit) : α × β := (e.1, e.2.1)
theorem zmm {α β : Type} {eqb : α → α → Bool} {k : α} : ∀ (l : List (α × β)) (i j : Nat), Qm eqb k l (i + j) = (Qm eqb k l i).map fun r => (r.1 + j, r.2)
  | [], i, j => rfl
  | e :: es, i, j => by
    unfold Qm
    cases eqb k e.1
    · simp only [wdi, if_false]
      rw [show i + j + 1 = i + 1 + j by omega]; exact zmm es (i + 1) j
    · simp
theorem zmc {α β : Type} {eqb : α → α → Bool} {k : α} : ∀ (l : List (α × β × Unit)), zgr eqb l k = zqi eqb (l.map ent) k
  | [] => rfl
  | e :: es => by
    unfold zqi zgr
    simp only [wcj, Qm, ent]
    cases eqb k e.1
    · simp only [wdi, if_false]
      rw [zmm _ 0 1, Option.map_map, zmc es]; rfl
    · rfl
theorem zr5 {α β : Type} {eqb : α → α → Bool} {k : α} {v : β} : ∀ (l : List (α × β × Unit)), (zis eqb l k v).map ent = z13 eqb (l.map ent) k v
  | [] => rfl
  | e :: es => by
    have ih := zr5 (eqb := eqb) (k := k) (v := v) es
    unfold z13 at ih ⊢
    unfold zis
    simp only [wcj, Qm, ent]
    cases eqb k e.1
    · simp only [wdi, if_false, wcj]
      rw [zmm _ 0 1, ih]
      cases Qm eqb k (es.map ent) 0 with
      | none => rfl
      | some r => simp [ent]
    · rfl
structure KY where
  kt : Ty
  eqb : kt.D → kt.D → Bool
def znl (P : Program) (ky : TypeId → Option KY) : Prop := ∀ k x, ky k = some x → plT x.kt = true ∧ zhk P k (oV x.kt) x.eqb
def zfg (P : Program) (t : TypeId) : Option (TypeId × TypeId) := match P.underlying t with
  | some (.map k e) => some (k, e)
  | _ => none
theorem zas {P : Program} {t : TypeId} {r : TypeId × TypeId} (h : zfg P t = some r) : P.underlying t = some (.map r.1 r.2) := by
  unfold zfg at h
  split at h <;> cases h
  assumption
def zvB (P : Program) (e : TypeId) (d : Dyn) : Bool := match (P.info? e).bind (·.zero) with
  | some z => plT d.t && zyB z d
  | none => false
theorem z1o {P : Program} {e : TypeId} {d : Dyn} (h : zvB P e d = true) : plT d.t = true ∧ ∀ w, (zeroValue e).run P w = .ok (oV d.t d.x) w := by
  unfold zvB at h
  split at h
  · rename_i z hz
    simp only [wb6] at h
    obtain ⟨i, hi, hiz⟩ := wda.1 hz
    refine ⟨h.1, fun w => ?_⟩
    obtain ⟨hr, _⟩ := zz6 h.2
    have : z = oV d.t d.x := zr3 (Z := ⟨fun _ => False, 0⟩) (H := waa) (V := V0) (w := w) h.1 (hr _ _ _ _ _ (.u z))
    unfold zeroValue
    rw [Sem.run_bind, run_typeInfo w hi]
    simp only [Result.andThen_ok, hiz]
    rw [← this]; rfl
  · cases h
def z1i (G : EG) (kt vt : Ty) (x : TS) : Option (Nat × Nat × List (kt.D × vt.D × Unit)) := match x with
  | .own id ver => match Nat.beq (G id).ver ver with
    | true => match (G id).b with
      | some (.obj k y) => match k.eqB (.mp kt vt) with
        | true => match Dyn.as ⟨k.ty, y⟩ (.sl (.st (.cons kt (.cons vt .nil)))) with
          | some l => some (id, ver, l)
          | none => none
        | false => none
      | _ => none
    | false => none
  | _ => none
theorem zpz {G : EG} {kt vt : Ty} {x : TS} {r : Nat × Nat × List (kt.D × vt.D × Unit)} (h : z1i G kt vt x = some r) : x = .own r.1 r.2.1 ∧ G r.1 = ⟨r.2.1, some (.obj (.mp kt vt) r.2.2)⟩ := by
  unfold z1i at h
  split at h <;> try (cases h; done)
  rename_i id ver
  split at h <;> try (cases h; done)
  rename_i hv
  split at h <;> try (cases h; done)
  rename_i k y hb
  split at h <;> try (cases h; done)
  rename_i hk
  have := wa1 hk
  subst this
  split at h <;> cases h
  rename_i l hl
  have := wac hl
  injection this with e1 e2
  subst e2
  refine ⟨rfl, ?_⟩
  cases hG : G id with
  | mk v b =>
    rw [hG] at hv hb
    simp only at hv hb
    rw [ju hv, hb]
def sMp (P : Program) (ky : TypeId → Option KY) (zy : ZY) (o : Oper) (nid : Nat) (E : EF) (G : EG) : Option SR := match o.op with
  | .makeMap t none => match zfg P t with
    | none => none
    | some ke => match ky ke.1 with
      | none => none
      | some x => match zy ke.2 with
        | none => none
        | some d => match vz o with
          | true => some ⟨Unit, true, some (), fun _ => .own nid (nv G nid), fun _ => [(nid, ⟨nv G nid, some (.obj (.mp x.kt d.t) [])⟩)], [], [nid], []⟩
          | false => none
  | .lookup t x y ok => match zfg P t with
    | none => none
    | some ke => match ky ke.1 with
      | none => none
      | some q => match zy ke.2 with
        | none => none
        | some d => match zvB P ke.2 d with
          | false => none
          | true => match z1i G q.kt d.t (evE E x) with
            | none => none
            | some m => match toT q.kt (evE E y) with
              | none => none
              | some k => match ok with
                | false => some (.dat (Option d.t.D) (some (zgr q.eqb m.2.2 k)) (fun g => .v ⟨d.t, gD d.x g⟩) [m.1])
                | true => some (.dat (Option d.t.D) (some (zgr q.eqb m.2.2 k)) (fun g => .tup [.v ⟨d.t, gD d.x g⟩, .v ⟨.bool, g.isSome⟩]) [m.1])
  | .mapUpdate t x y z => match zfg P t with
    | none => none
    | some ke => match ky ke.1 with
      | none => none
      | some q => match zy ke.2 with
        | none => none
        | some d => match zvB P ke.2 d with
          | false => none
          | true => match z1i G q.kt d.t (evE E x) with
            | none => none
            | some m => match toT q.kt (evE E y) with
              | none => none
              | some k => match toT d.t (evE E z) with
                | none => none
                | some v => some ⟨List (q.kt.D × d.t.D × Unit), false, some (zis q.eqb m.2.2 k v), fun _ => UND, fun l => [(m.1, ⟨m.2.1, some (.obj (.mp q.kt d.t) l)⟩)], [], [m.1], []⟩
  | .call ⟨.builtin .len, ⟨[x]⟩, ⟨[t]⟩⟩ => match zfg P t with
    | none => none
    | some ke => match ky ke.1 with
      | none => none
      | some q => match zy ke.2 with
        | none => none
        | some d => match z1i G q.kt d.t (evE E x) with
          | none => none
          | some m => some (.dat Int (some (m.2.2.length : Int)) (fun z => .v ⟨.int .i64, z⟩) [m.1])
  | _ => none
section
variable {P : Program} {o : Oper} {E : EF} {G : EG} {H : PHeap} {F : PFrame} {W : Env} {n : Nat}
theorem z1b {kt vt : Ty} {id ver : Nat} {l : List (kt.D × vt.D × Unit)} (hG : G id = ⟨ver, some (.obj (.mp kt vt) l)⟩) (hH : H (.o id) = qr id (G id)) {V : Nm → Value} {w : World} (hr : HRel P W H V w) {v : Value} (hv : Rp W.Z H V w (.ps (.o id) ver) v) :
    ∃ g arr clock, v = .map (some g) ∧ V (.o id) = .map (some g) ∧ W.w.heap.size ≤ g ∧ w.heap[g]? = some (.map arr clock) ∧ arr.toList.map (fun e => (e.key, e.val)) = (l.map ent).map fun e => (oV kt e.1, oV vt e.2) := by
  have hb : H (.o id) = ⟨ver, some (zxr (l.map fun e => (oV kt e.1, oV vt e.2.1)))⟩ := by rw [hH, hG]; rfl
  obtain ⟨g, o, vs, e, hg, hh, ⟨arr, clock, rfl, he⟩, _⟩ := hr.map (.o id) false [] _ (by rw [hb]; rfl)
  cases hv with
  | ps _ _ _ hvv hq =>
    have := hq (by rw [hb]; rfl) (by rw [hb])
    exact ⟨g, arr, clock, by rw [this, e]; rfl, e, hg, hh, by rw [he, wc7]; rfl⟩
theorem zfk {t : Ty} {s : TS} {x : t.D} (h : toT t s = some x) (hp : plT t = true) {Z : ZM} {V : Nm → Value} {w : World} {v : Value} (hv : Rp Z H V w s.den v) : v = oV t x := zr3 hp ((Qr t s x h).2 _ _ _ _ _ hv)
theorem sMp_ok {ky : TypeId → Option KY} (hky : znl P ky) {zy : ZY} {nid : Nat} {q : SR} (h : sMp P ky zy o nid E G = some q) : SOk P o E G q := by
  unfold sMp at h
  split at h <;> try (cases h; done)
  · -- made
    rename_i t ho
    split at h <;> try (cases h; done)
    split at h <;> try (cases h; done)
    split at h <;> try (cases h; done)
    split at h <;> cases h
    rename_i ke hke x hx d hd hds
    obtain ⟨dd, hdd⟩ := qz hds
    refine ⟨fun _ => rfl, fun _ _ W n F H hfl hdo hF hH V a w hr => ?_⟩
    have hex : (execOp a.eval o).run P w = .ok (.value (.map (some w.heap.size))) (w.alloc (.map #[] 0)) := by
      simp only [execOp, ho]; rfl
    have hHn := hH nid (.inr (by simp))
    have hver : (H (.o nid)).ver + 1 = nv G nid := by rw [hHn.1]; rfl
    refine ve hex ⟨.ps (.o nid) (nv G nid), H.set (.o nid) ⟨(H (.o nid)).ver + 1, some (zxr [])⟩, vg V (.o nid) (.map (some w.heap.size)), ⟨by simp only [TS.den], ?_⟩, ?_⟩
    · rw [hver]; rfl
    · have hb : Below w.heap.size w (w.alloc (.map #[] 0)) := (Below.refl _ _).alloc (wb7 _) _
      refine hr.turn (Turn.new hr.heap hb rfl fun g hg => by cases hg; exact wb7 _) (fun bd hbd => ?_) o.dst (fun t ht => by exact hdo t ht) ?_
      · cases hbd
        exact ⟨w.heap.size, _, [], rfl, hr.heap.below.size, heap_alloc_new w _, ⟨#[], 0, rfl, rfl⟩, rfl, fun i p v h => by simp at h⟩
      · refine .ps _ _ _ ?_ fun _ _ => ?_
        · simp [PHeap.set, hver]
        · simp [vg]
  · -- looked up
    rename_i t x y ok ho
    split at h <;> try (cases h; done)
    rename_i ke hke
    split at h <;> try (cases h; done)
    rename_i kq hq
    split at h <;> try (cases h; done)
    rename_i d hd
    split at h <;> try (cases h; done)
    rename_i hz
    split at h <;> try (cases h; done)
    rename_i m hm
    split at h <;> try (cases h; done)
    rename_i k hk
    obtain ⟨hpk, hK⟩ := hky _ _ hq
    obtain ⟨hpv, hz⟩ := z1o hz
    have ht := zas hke
    obtain ⟨e1, e2⟩ := zpz hm
    have hx' : x ∈ o.op.operands := by rw [ho]; simp [Op.operands]
    have hy' : y ∈ o.op.operands := by rw [ho]; simp [Op.operands]
    have main : ∀ {W F H}, Agr o E G [m.1] F H → ∀ (V : Nm → Value) (a : Act) (w : World), HRel P W H V w → (∀ x ∈ o.op.operands, Rp W.Z H V w (evP F x) (a.eval x)) → (execOp a.eval o).run P w = .ok (.value (if ok then .tuple #[oV d.t ((zqi kq.eqb (m.2.2.map ent) k).getD d.x), .bool (zqi kq.eqb (m.2.2.map ent) k).isSome] else oV d.t ((zqi kq.eqb (m.2.2.map ent) k).getD d.x))) w := fun {W F H} hag V a w hw hh => by
      have hxv := hh x hx'
      have hyv := hh y hy'
      rw [hag.ev hx', e1] at hxv
      rw [hag.ev hy'] at hyv
      simp only [TS.den] at hxv
      obtain ⟨g, arr, clock, hv, hV, hg, hb, he⟩ := z1b e2 (hag.h m.1 (by simp)) hw hxv
      have hkv := zfk hk hpk hyv
      have h1 := zp3 hK ht hz k hb he ok
      simp only [execOp, ho, hv, hkv, Sem.run_bind, h1, Result.andThen_ok]
      rfl
    have hgd : ∀ (g : Option d.t.D), gD d.x g = g.getD d.x := fun g => by cases g <;> rfl
    cases ok with
    | false =>
      cases h
      refine SOk.dat fun g hg W F H hag => wab fun V a w hw hh => ⟨_, main hag V a w hw hh, ?_⟩
      cases hg
      simp only [TS.den, wdi, if_false]
      rw [zmc, hgd, zlv _ _ hpv]; exact Rp.ofV _ _ _ _ _
    | true =>
      cases h
      refine SOk.dat fun g hg W F H hag => wab fun V a w hw hh => ⟨_, main hag V a w hw hh, ?_⟩
      cases hg
      simp only [TS.den, q8, if_true]
      rw [zmc, hgd]
      refine .tup _ _ rfl fun i p v h1 h2 => ?_
      match i, h1, h2 with
      | 0, h1, h2 => cases h1; cases h2; rw [zlv _ _ hpv]; exact Rp.ofV _ _ _ _ _
      | 1, h1, h2 => cases h1; cases h2; exact .u _
  · -- written
    rename_i t x y z ho
    split at h <;> try (cases h; done)
    rename_i ke hke
    split at h <;> try (cases h; done)
    rename_i kq hq
    split at h <;> try (cases h; done)
    rename_i d hd
    split at h <;> try (cases h; done)
    rename_i hz
    split at h <;> try (cases h; done)
    rename_i m hm
    split at h <;> try (cases h; done)
    rename_i k hk
    split at h <;> cases h
    rename_i v hv
    obtain ⟨hpk, hK⟩ := hky _ _ hq
    obtain ⟨hpv, hz⟩ := z1o hz
    have ht := zas hke
    obtain ⟨e1, e2⟩ := zpz hm
    have hx' : x ∈ o.op.operands := by rw [ho]; simp [Op.operands]
    have hy' : y ∈ o.op.operands := by rw [ho]; simp [Op.operands]
    have hz' : z ∈ o.op.operands := by rw [ho]; simp [Op.operands]
    refine ⟨fun _ => rfl, fun l' hl W n F H hfl hdo hF hH V a w hr => ?_⟩
    cases hl
    have hag : Agr o E G [m.1] F H := ⟨hF, fun id hid => hH id (.inr (.inl (by simpa using hid)))⟩
    have ev : ∀ (x : Operand), Rp W.Z H V w (evP F x) (a.eval x) := fun x => Rp.eval (P := P) x fun t _ => hr.slot t
    have hxv := ev x
    have hyv := ev y
    have hzv := ev z
    rw [hag.ev hx', e1] at hxv
    rw [hag.ev hy'] at hyv
    rw [hag.ev hz'] at hzv
    simp only [TS.den] at hxv
    have hHm := hag.h m.1 (by simp)
    obtain ⟨gb, arr, clock, hvx, hV, hgb, hb, he⟩ := z1b e2 hHm hr.heap hxv
    have hkv := zfk hk hpk hyv
    have hvv := zfk hv hpv hzv
    obtain ⟨arr', clock', hrun, he'⟩ := zjt (vv := oV d.t) hK ht k v hb he
    have hlt := (wcg.1 hb).1
    have hother : ∀ b, b ≠ gb → (w.heap.setIfInBounds gb (.map arr' clock'))[b]? = w.heap[b]? := fun b hne => by simp [Ne.symm hne]
    have hHb : H (.o m.1) = ⟨m.2.1, some (zxr (m.2.2.map fun e => (oV kq.kt e.1, oV d.t e.2.1)))⟩ := by rw [hHm, e2]; rfl
    have hl : (H (.o m.1)).body.isSome = true := by rw [hHb]; rfl
    have hturn : Turn W H V w (.o m.1) ⟨m.2.1, some (zxr ((zis kq.eqb m.2.2 k v).map fun e => (oV kq.kt e.1, oV d.t e.2.1)))⟩ (V (.o m.1)) { w with heap := w.heap.setIfInBounds gb (.map arr' clock') } :=
      ⟨hr.heap.below.trans ⟨rfl, rfl, rfl, by simp, fun b hb => hother b (by omega)⟩, by simp, fun b hb hn => hother b fun e => hn ⟨hl, by rw [e, hV]; rfl⟩, fun g' hg' => .inr ⟨hl, hg'⟩, .inr ⟨by rw [hHb], rfl, hl⟩⟩
    have hex : (execOp a.eval o).run P w = .ok .skip { w with heap := w.heap.setIfInBounds gb (.map arr' clock') } := by
      simp only [execOp, ho, hvx, hkv, hvv, Sem.run_bind, hrun, Result.andThen_ok]; rfl
    unfold Oper.wp
    rw [hex]
    refine ⟨.u undef, _, vg V (.o m.1) (V (.o m.1)), ⟨und_den.symm, rfl⟩, hr.turn hturn (fun bd hbd => ?_) o.dst hdo (.u _)⟩
    cases hbd
    refine ⟨gb, .map arr' clock', [], hV, hgb, by simp [hlt], ⟨arr', clock', rfl, ?_⟩, rfl, fun i p v h => by simp at h⟩
    rw [he', ← zr5, wc7]; rfl
  · -- counted
    rename_i x t ho
    split at h <;> try (cases h; done)
    rename_i ke hke
    split at h <;> try (cases h; done)
    rename_i kq hq
    split at h <;> try (cases h; done)
    rename_i d hd
    split at h <;> cases h
    rename_i m hm
    have ht := zas hke
    obtain ⟨e1, e2⟩ := zpz hm
    have hx' : x ∈ o.op.operands := by rw [ho]; simp [Op.operands, Call.operands]
    refine SOk.dat fun g hg W F H hag => wab fun V a w hw hh => ?_
    cases hg
    have hxv := hh x hx'
    rw [hag.ev hx', e1] at hxv
    simp only [TS.den] at hxv
    obtain ⟨gb, arr, clock, hv, hV, hgb, hb, he⟩ := z1b e2 (hag.h m.1 (by simp)) hw hxv
    refine ⟨.int .i64 m.2.2.length, ?_, by simp only [TS.den]; exact .u _⟩
    have hlen : arr.size = m.2.2.length := by have := congrArg List.length he; simpa using this
    have : (Builtin.len_ #[t] o.type #[.map (some gb)]).run P w = .ok (goInt m.2.2.length) w := by
      simp [Builtin.len_, run_underlying ht, MapKept.run_getObj_map hb, hlen]
    simp only [execOp, ho, resolve, invoke, builtin, Sem.run_bind, Sem.run_pure, Result.andThen_ok, wej, wcj, wdh, hv, this]
    rfl
end
noncomputable def z1c (ky : TypeId → Option KY) (prs : Nat → Prm) (fz : Nat → Nat → List (Nat × Ty)) (fr : Nat → Nat → Bool) (T : FuncId → Option FF) : Sy1 := fun ctx nid site o E G => match sMp Tryz.prog ky (prs ctx).zy o nid E G with
  | some q => some q
  | none => zzf prs fz fr T ctx nid site o E G
theorem zzy {ky : TypeId → Option KY} (hky : znl Tryz.prog ky) {prs : Nat → Prm} {fz : Nat → Nat → List (Nat × Ty)} {fr : Nat → Nat → Bool} {T : FuncId → Option FF} (hT : zaf Tryz.prog T) (hS : ∀ c, Qh Tryz.prog (prs c).S) (hzt : ∀ c, zai Tryz.prog (prs c).zt) (hzt2 : ∀ c, zai Tryz.prog (prs c).zt2) : ∀ ctx nid site o E G q, z1c ky prs fz fr T ctx nid site o E G = some q → SOk Tryz.prog o E G q := fun ctx nid site o E G q h => by
  unfold z1c at h
  split at h
  · rename_i q' hq; cases h; exact sMp_ok hky hq
  · exact z1p hT hS hzt hzt2 _ _ _ _ _ _ _ h
theorem baEq (a b : List UInt8) : ((⟨⟨a⟩⟩ : ByteArray) == ⟨⟨b⟩⟩) = (a == b) := by
  show ByteArray.beq _ _ = _
  unfold ByteArray.beq
  simp
theorem klawT {P : Program} {k : TypeId} (h : P.underlying k = some .string) : zhk P k (oV .str) (fun a b => a == b) where
  chk := fun b x w => by
    unfold Instr.checkKey
    simp only [Sem.run_bind, run_underlying h, Result.andThen_ok]; rfl
  und := ⟨_, h, fun a b => .inr (by
    show some ((⟨⟨a⟩⟩ : ByteArray) == ⟨⟨b⟩⟩) = some (a == b)
    rw [baEq])⟩
  eq := fun a b w => Yj h (by
    show some ((⟨⟨a⟩⟩ : ByteArray) == ⟨⟨b⟩⟩) = some (a == b)
    rw [baEq]) w
  beq := fun a b h => by simpa using h
  bits := fun a => by
    show ((⟨⟨a⟩⟩ : ByteArray) == ⟨⟨a⟩⟩) = true
    rw [baEq]; simp
def zu2 {α : Type} (l : List α) (z : Int) : Option Nat := match decide (0 ≤ z) && decide (z ≤ l.length) with
  | true => some z.toNat
  | false => none
noncomputable def sSlF (es : Option Nat) (G : EG) (x y : TS) : Option SR := match x with
  | .own id ver => match Nat.beq (G id).ver ver with
    | true => match (G id).b with
      | some (.row _ t l) => match oeq es (some (wid t)) with
        | true => q3 (Zo y) fun z => some (.dat Nat (zu2 l z) (fun j => .q id (wid t) j ver) [id])
        | false => none
      | _ => none
    | false => none
  | _ => none
def cpyO {α : Type} (a b : List α) : Option (Int × List α) := some (((min a.length b.length : Nat) : Int), b.take a.length ++ a.drop b.length)
noncomputable def sCpy (es : Option Nat) (G : EG) (x y : TS) : Option SR := match x with
  | .own id ver => match Nat.beq (G id).ver ver with
    | true => match (G id).b with
      | some (.row tid t l) => match oeq es (some 1) && (Nat.beq (wid t) 1 && Ya t) with
        | true => match zsq t G y with
          | some r => some ⟨Int × List t.D, false, cpyO l r.1, fun y => .v ⟨.int .i64, y.1⟩, fun y => [(id, ⟨ver, some (.row tid t y.2)⟩)], r.2, [id], []⟩
          | none => none
        | false => none
      | _ => none
    | false => none
  | _ => none
def b2s (l : List Int) : Option (List UInt8) := some (l.map fun n => UInt8.ofNat n.toNat)
def idOf : TS → List Nat
  | .own id _ => [id]
  | _ => []
noncomputable def sB2S (G : EG) (x : TS) : Option SR := match yn (J4 (idOf x) G) (.sl (.int .u8)) x with
  | some l => some (.dat (List UInt8) (b2s l) (fun y => .v ⟨.str, y⟩) (idOf x))
  | none => none
section
variable {P : Program} {W : Env} {n : Nat} {o : Oper} {E : EF} {F : PFrame} {H : PHeap} {G : EG}
theorem z3w {t : TypeId} {x y : Operand} {q : SR} (ho : o.op = .slice t x (some y) none none) (h : sSlF (esz P t) G (evE E x) (evE E y) = some q) : SOk P o E G q := by
  have hx' : x ∈ o.op.operands := by rw [ho]; simp [Op.operands]
  have hy' : y ∈ o.op.operands := by rw [ho]; simp [Op.operands]
  unfold sSlF at h
  split at h <;> try (cases h; done)
  rename_i id ver hx
  split at h <;> try (cases h; done)
  rename_i hv
  have hv := ju hv
  split at h <;> try (cases h; done)
  rename_i tid ty l hb
  split at h <;> try (cases h; done)
  rename_i hes
  have hes := za6 hes
  obtain ⟨z, hz, h⟩ := jt h
  cases h
  obtain ⟨kd, hkd⟩ := Jm hz
  refine SOk.dat fun j hj W F H hag => ?_
  unfold zu2 at hj
  split at hj <;> cases hj
  rename_i hb2
  simp only [wb6, wc9] at hb2
  simp only [TS.den]
  refine wa2 (id := .o id) (kd := kd) ho hes (by rw [hag.ev hx', hx]; simp only [TS.den]) (e := tid) (m := l.length) (cs := l.flatMap (je ty)) ?_ (by rw [hag.ev hy', hkd]) hb2.1 (by omega)
  obtain ⟨h1, h2⟩ := yc (yb (hag.h id (by simp)) hb rfl hv)
  cases hH : H (.o id) with
  | mk v b =>
    rw [hH] at h1 h2
    simp only at h1 h2
    rw [h1, h2]
theorem zny (w : World) (dT sT ty elem : TypeId) (ad sa : Option Addr) (dLen dCap zt6 sCap : Nat) (hu : P.underlying dT = some (.slice elem)) (hs : ((P.info? elem).map (·.size)).isSome = true) (h0 : Nat.min zt6 dLen = 0) :
    (Builtin.copy_ #[dT, sT] ty #[.slice ad dLen dCap, .slice sa zt6 sCap]).run P w = .ok (goInt 0) w := by
  cases hq : P.info? elem with
  | none => simp [hq] at hs
  | some i =>
    cases sa <;> cases ad <;> simp [Builtin.copy_, run_underlying hu, Builtin.lenOf, Builtin.firstCells, sizeOf, typeInfo, hq, storeCells, h0, loadCells, loadCellsFrom]
theorem wby {t t' e : TypeId} {x y : Operand} {id : Nm} {ver m m2 : Nat} {cs cs2 : List PV} {K : PV → PHeap → Prop} (ho : o.op = .call { callee := .builtin .copy, args := #[x, y], argTypes := #[t, t'] }) (hdo : Jc n o) (hu : P.underlying t = some (.slice e)) (hs : (P.info? e).map (·.size) = some 1)
    {te : TypeId} (hx : evP F x = .ps id ver) (hl : yh H id ver = some (te, 1, m, cs)) (hy : zmj H 1 (evP F y) = some (m2, cs2)) (hc2 : cs2.length = m2) (hcs : cs.length = m) (hleaf : ∀ p ∈ cs2, yj H p = true)
    (hk : K (.u (.int .i64 (min m m2 : Nat))) (H.set id ⟨ver, some (.row te 1 m (cs2.take m ++ cs.drop m2))⟩)) : PE P W n o F H K := by
  obtain ⟨hb, hve⟩ := yc hl
  by_cases h0 : Nat.min m2 m = 0
  · have hq : PQ P W o F H (.u (.int .i64 (min m m2 : Nat))) := wab fun V a w hr hh => by
      obtain ⟨vals, hown, hR, h1⟩ := hr.row id _ _ _ _ hb
      have hxv := hh x (by rw [ho]; simp [Op.operands, Call.operands])
      have hyv := hh y (by rw [ho]; simp [Op.operands, Call.operands])
      rw [hx] at hxv
      obtain ⟨ad, c, hyv, _⟩ := zcz hr hyv hy
      have exv : a.eval x = V id := by
        generalize a.eval x = q at hxv
        cases hxv with
        | ps _ _ _ hvv hh => exact hh (by rw [hb]; rfl) hve
      have hVs : ∃ ad cc, V id = .slice ad m cc := by
        rcases hown.2 with ⟨e1, e0⟩ | ⟨g, cap, cur, e1, _⟩
        · exact ⟨_, _, by rw [e1, e0]⟩
        · exact ⟨_, _, e1⟩
      obtain ⟨ad2, cc, hV⟩ := hVs
      refine ⟨goInt 0, ?_, ?_⟩
      · unfold execOp
        simp only [ho, resolve, invoke, builtin, Sem.run_bind, Sem.run_pure, Result.andThen_ok, wej, wcj, wdh, exv, hV, hyv, zny w t t' o.type e ad2 ad m cc m2 c hu (by rw [hs]; rfl) h0]
      · have : min m m2 = 0 := by rw [Nat.min_comm]; exact h0
        rw [this]; exact .u _
    refine wan hdo hq ?_
    have e : H.set id ⟨ver, some (.row te 1 m (cs2.take m ++ cs.drop m2))⟩ = H := by
      funext j
      unfold PHeap.set
      split
      · rename_i hj
        subst hj
        have e2 : cs2.take m ++ cs.drop m2 = cs := by
          rcases Nat.eq_zero_or_pos m2 with h | h
          · subst h
            rw [wcm hc2]; simp
          · have hm : m = 0 := by
              have : min m2 m = 0 := h0
              omega
            subst hm
            rw [wcm hcs]; simp
        rw [e2]
        cases hH : H j with
        | mk v b => rw [hH] at hb hve; simp only at hb hve; rw [hb, hve]
      · rfl
    rw [e] at hk
    exact hk
  · have hm0 : m ≠ 0 := fun e => h0 (by rw [e]; exact Nat.min_zero _)
    have hm20 : m2 ≠ 0 := fun e => h0 (by rw [e]; exact Nat.zero_min _)
    intro V a w hr
    obtain ⟨vals, hown, hR, h1⟩ := hr.heap.row id _ _ _ _ hb
    have hxv : a.eval x = V id := by
      have := Rp.eval (P := P) (F := F) (a := a) (Z := W.Z) (H := H) (V := V) (w := w) x fun t _ => hr.slot t
      rw [hx] at this
      generalize a.eval x = q at this
      cases this with
      | ps _ _ _ hvv hh => exact hh (by rw [hb]; rfl) hve
    obtain ⟨ad, c, hyv, hsrc⟩ := zcz hr.heap (Rp.eval (P := P) (F := F) (a := a) y fun t _ => hr.slot t) hy
    rcases hsrc with ⟨h0, _⟩ | ⟨ba, news, rfl, hnl, hRn, hcell⟩
    · exact absurd h0 hm20
    rcases hown.2 with ⟨e1, h0⟩ | ⟨g, cap, cur, e1, hbg, hgh, hcap, hcm, hcsz, htake⟩
    · exact absurd h0 hm0
    have hnl' : news.length = m2 := by omega
    have hvl : vals.length = m := by have := hown.1; omega
    have hone : ∀ u ∈ news, u.oneCell' = true := fun u hu => by
      obtain ⟨j, hj, rfl⟩ := wem hu
      have hj2 : j < cs2.length := by rw [hRn.1]; exact hj
      exact (hRn.2 j _ _ (wb5 hj2) (wb5 hj)).leaf hr.heap (hleaf _ (wei _))
    have hrun := run_copy_row (P := P) w t t' o.type e g 0 m cap ba m2 c cur te (news.take m) hu hs hgh (by rw [wdf, hnl', Nat.min_comm]) (fun j v hj => hcell j v (by
      rw [wc6] at hj
      split at hj
      · exact hj
      · cases hj)) (by rw [wdf]; omega) (fun v hv => hone v (wdx hv))
    have hex : (execOp a.eval o).run P w = .ok (.value (goInt (news.take m).length)) (w.setRow g (cur.toList.take 0 ++ news.take m ++ cur.toList.drop (0 + (news.take m).length)).toArray) := by
      unfold execOp
      simp only [ho, resolve, invoke, builtin, Sem.run_bind, Sem.run_pure, Result.andThen_ok, wej, wcj, wdh, hxv, hyv, e1, hrun]
    have hcn : (news.take m).length = min m m2 := by rw [wdf, hnl']
    have hgi : goInt (news.take m).length = .int .i64 (min m m2 : Nat) := by rw [hcn]; rfl
    have hown' : (w.setRow g (cur.toList.take 0 ++ news.take m ++ cur.toList.drop (0 + (news.take m).length)).toArray).ownsRow W.w.heap.size te 1 (V id) m (news.take m ++ vals.drop m2) := by
      refine ⟨by simp [hvl, hnl']; omega, .inr ⟨g, cap, _, e1, hbg, setRow_heap w g cur _ te _ hgh, hcap, hcm, ?_, ?_⟩⟩
      · simp [hnl']; omega
      · have hdrop : vals.drop m2 = (cur.toList.take m).drop m2 := by rw [← htake, Nat.mul_one]
        rw [hdrop, Nat.mul_one]
        simp only [List.take_zero, wc2, wcx, hcn]
        apply wdt
        intro j
        rw [wc6]
        by_cases hj : j < m
        · rw [if_pos hj]
          by_cases hj2 : j < m2
          · rw [wcc (by rw [hcn]; omega), wcc (by rw [hcn]; omega)]
          · rw [wce (by rw [hcn]; omega), wce (by rw [hcn]; omega), hcn, wcv, wcv, wc6]
            rw [if_pos (by omega)]
            congr 1; omega
        · rw [if_neg hj, wdn]
          simp [hcn]; omega
    have hgr : w.grownBy (w.setRow g (cur.toList.take 0 ++ news.take m ++ cur.toList.drop (0 + (news.take m).length)).toArray) (some g) := ⟨rfl, rfl, rfl, by simp, fun k _ hk => setRow_other w g k _ (fun e => hk (by rw [e]))⟩
    have hblk : jv (V id) = some g := by rw [e1]; rfl
    have hturn : Turn W H V w id ⟨ver, some (.row te 1 m (cs2.take m ++ cs.drop m2))⟩ (V id) (w.setRow g (cur.toList.take 0 ++ news.take m ++ cur.toList.drop (0 + (news.take m).length)).toArray) := by
      refine ⟨hr.heap.below.grown hgr hr.heap.below.size fun kk hk => by cases hk; exact hbg, hgr.size, fun bb hlt hn => hgr.block bb hlt fun e' => hn ⟨by rw [hb]; rfl, by rw [hblk]; exact e'.symm⟩, fun g' hg' => .inr ⟨by rw [hb]; rfl, hg'⟩, .inr ⟨hve.symm, rfl, by rw [hb]; rfl⟩⟩
    refine ve hex ⟨_, _, vg V id (V id), hk, ?_⟩
    rw [hgi]
    refine hr.turn hturn (fun bd hbd => ?_) o.dst hdo (.u _)
    cases hbd
    refine ⟨_, hown', ⟨?_, fun j p u h3 h4 => ?_⟩, fun u hu => ?_⟩
    · simp [hvl, hnl', hc2, hcs]
    · by_cases hj : j < min m m2
      · rw [wcc (by simp; omega), wc6, if_pos (by omega)] at h3
        rw [wcc (by rw [hcn]; exact hj), wc6, if_pos (by omega)] at h4
        exact hturn.rp (hRn.2 j p u h3 h4)
      · rw [wce (by simp; omega), wcv] at h3
        rw [wce (by rw [hcn]; omega), wcv, hcn] at h4
        have e3 : m2 + (j - (cs2.take m).length) = m2 + (j - min m m2) := by rw [wdf, hc2]
        rw [e3] at h3
        exact hturn.rp (hR.2 _ p u h3 h4)
    · rcases wcr.1 hu with h | h
      · exact hone u (wdx h)
      · exact h1 u (weg h)
theorem z26 {t t' : TypeId} {x y : Operand} {q : SR} (ho : o.op = .call { callee := .builtin .copy, args := #[x, y], argTypes := #[t, t'] }) (h : sCpy (esz P t) G (evE E x) (evE E y) = some q) : SOk P o E G q := by
  have hx' : x ∈ o.op.operands := by rw [ho]; simp [Op.operands, Call.operands]
  have hy' : y ∈ o.op.operands := by rw [ho]; simp [Op.operands, Call.operands]
  unfold sCpy at h
  split at h <;> try (cases h; done)
  rename_i id ver hx
  split at h <;> try (cases h; done)
  rename_i hv
  have hv := ju hv
  split at h <;> try (cases h; done)
  rename_i tid ty l hb
  split at h <;> try (cases h; done)
  rename_i hc
  simp only [wb6] at hc
  have hes := za6 hc.1
  have hw := ju hc.2.1
  split at h <;> cases h
  rename_i r hr
  refine ⟨fun _ => rfl, fun z hz W n F H hfl hd hF hH => ?_⟩
  cases hz
  have hag : Agr o E G r.2 F H := ⟨hF, fun i hi => hH i (.inl hi)⟩
  have hid := hH id (.inr (by simp))
  obtain ⟨e, ti, hu, hti, hts⟩ := Ze hes
  have hl1 : ∀ l : List ty.D, (l.flatMap (je ty)).length = l.length := fun l => by rw [ye _ (wid ty) _ fun x _ => jn ty x, hw, Nat.mul_one]
  have hsrc := zds (H := H) hr hw fun i hi => hag.h i hi
  refine wby (id := .o id) (ver := ver) (te := tid) (m := l.length) (m2 := r.1.length) (cs := l.flatMap (je ty)) (cs2 := r.1.flatMap (je ty)) ho hd hu (by rw [hti, wcd, hts]) (by rw [hag.ev hx', hx]; simp only [TS.den]) (by rw [yb hid.1 hb rfl hv, hw]) (by rw [hag.ev hy']; exact hsrc) (hl1 _) (hl1 _) (Y4 hc.2.2 _) ⟨by simp only [TS.den]; rfl, ?_⟩
  have e1 : (r.1.flatMap (je ty)).take l.length ++ (l.flatMap (je ty)).drop r.1.length = (r.1.take l.length ++ l.drop r.1.length).flatMap (je ty) := by
    have ht : ∀ (a : List ty.D) (j : Nat), (a.flatMap (je ty)).take j = (a.take j).flatMap (je ty) ∧ (a.flatMap (je ty)).drop j = (a.drop j).flatMap (je ty) := fun a j => by
      have e3 : a.flatMap (je ty) = (a.take j).flatMap (je ty) ++ (a.drop j).flatMap (je ty) := by rw [← wdc, wd2]
      by_cases hj : j ≤ a.length
      · have e4 : ((a.take j).flatMap (je ty)).length = j := by rw [hl1, wdf]; omega
        rw [e3, wed e4, wdp e4]
        exact ⟨rfl, rfl⟩
      · rw [wdr (by rw [hl1]; omega), List.drop_of_length_le (by rw [hl1]; omega), wdr (by omega), List.drop_of_length_le (by omega)]
        exact ⟨rfl, rfl⟩
    rw [(ht _ _).1, (ht _ _).2, wdc]
  have e2 : (r.1.take l.length ++ l.drop r.1.length).length = l.length := by simp; omega
  show _ = H.set (.o id) (qr id _)
  simp only [qr, wcd, BD.den, e1, e2, hw]
theorem z2i {Z : ZM} {V : Nm → Value} {w : World} {t t' e : TypeId} {l : List Int} {v : Value} (hs : P.underlying t = some (.slice e)) (he : P.underlying e = some (.int .u8)) (hd : P.underlying t' = some .string) (h : Rp Z H V w (.sl 1 (l.map fun z => PV.u (.int .u8 z))) v) : (convert t t' v).run P w = .ok (.string (strOfNums l)) w := by
  generalize hxs : (l.map fun z => PV.u (.int .u8 z)) = us at h
  cases h with
  | nil k a c =>
    have : l = [] := List.map_eq_nil_iff.1 hxs
    subst this
    cases a <;> simp [convert, run_underlying hs, run_underlying hd, run_underlying he, Conv.bytesToString, loadCells, loadCellsFrom, strOfNums] <;> rfl
  | sl k us b o c gg hu hlen hz hb h1 h2 =>
    subst hxs
    have hfl : (l.map fun z => PV.u (.int .u8 z)).flatMap PV.cells = l.map fun z => PV.u (.int .u8 z) := flat1 (fun v => rfl) l
    have hcell : ∀ i, i < l.length → w.cell? ⟨b, o + i, none⟩ = some (.int .u8 (l.getD i 0)) := fun i hi => by
      have hp : ((l.map fun z => PV.u (.int .u8 z)).flatMap PV.cells)[i]? = some (PV.u (.int .u8 l[i])) := by rw [hfl]; simp [hi]
      have h3 := h2 i _ hp
      rw [h1 i _ hp]
      generalize gg i = q at h3
      cases h3
      simp [List.getD, hi]
    have := run_convert_bytes_arg (P := P) w t e hs he b o l.length c l rfl hcell t' hd
    rw [wcs]; exact this
theorem z25 {t t' e : TypeId} {x : Operand} {q : SR} (ho : o.op = .convert t t' x) (hs : P.underlying t = some (.slice e)) (he : P.underlying e = some (.int .u8)) (hd : P.underlying t' = some .string) (h : sB2S G (evE E x) = some q) : SOk P o E G q := by
  have hx' : x ∈ o.op.operands := by rw [ho]; simp [Op.operands]
  unfold sB2S at h
  split at h <;> cases h
  rename_i l hl
  refine SOk.dat fun z hz W F H hag => wab fun V a w hr hh => ?_
  cases hz
  have hxv := hh x hx'
  rw [hag.ev hx'] at hxv
  have hv := (Ja (G := J4 (idOf (evE E x)) G) (H := H) (zdj hag.hn) _ _ _ hl).1 P W V w hr _ hxv
  have := z2i hs he hd (l := l) hv
  refine ⟨.string (strOfNums l), ?_, ?_⟩
  · simp only [execOp, ho, Sem.run_bind, this, Result.andThen_ok]
    rfl
  · simp only [TS.den]; exact .u _
end
theorem zpj {α : Type} (o : Option α) : ja o (fun x => some x) = o := by cases o <;> rfl
theorem zbh {P : Program} {f : FuncId} {t : Ty} {e : TypeId} {b : Nat} {g : List t.D → Option (List t.D)} (hC : zgg P f [.sl t] e t g) (hg : ∀ x r, g (x :: r) = apO b [] (x :: r))
    (hn : ∀ c w, Calls P f #[.slice none 0 c] w fun ex w' => ex = .returned (.slice none 0 0) ∧ w' = w)
    (hz : ∀ a c w, Calls P f #[.slice (some a) 0 c] w fun ex w' => ∃ v', ex = .returned v' ∧ w'.ownsRow w.heap.size e (wid t) v' 0 [] ∧ Below w.heap.size w w') : zgg P f [.sl t] e t (fun x => apO b [] x) := by
  refine ⟨hC.1, fun x r h => ?_⟩
  cases x with
  | cons y l => exact hC.2 (y :: l) r ((hg y l).trans h)
  | nil =>
    obtain ⟨_, _, rfl⟩ := Vb h
    intro Z w vs _ hZ hm hR
    obtain ⟨v, rfl, hv⟩ := zp0 (p := .sl (wid t) []) hR
    have fin : ∀ {v' : Value} {w' : World}, w'.ownsRow Z.m e (wid t) v' 0 [] → (∀ g, jv v' = some g → ¬ PZ Z waa V0 g) → ∃ p, p = PV.fr e (wid t) (([] : List t.D).map (enc t)) ∧ NoP p ∧ Rp Z waa V0 w' p v' := fun h1 h2 =>
      ⟨_, rfl, .fr _ _ _ fun c hc => by simp at hc, .fr e (wid t) [] _ [] (fun y hy => by cases hy) h1 h2 (fun u hu => by cases hu) fun i p u hi => by simp at hi⟩
    have zero : ∀ a c, v = .slice (some a) 0 c → Calls P f [v].toArray w (fun ex w' => ∃ v p, ex = .returned v ∧ p = PV.fr e (wid t) (([] ++ [] : List t.D).map (enc t)) ∧ NoP p ∧ Rp Z waa V0 w' p v ∧ Below w.heap.size w w') := fun a c ev => by
      subst ev
      refine (hz a c w).mono fun ex w' ⟨v', h1, h2, h3⟩ => ?_
      obtain ⟨p, g1, g2, g3⟩ := fin (v' := v') (w' := w') (yy (w := w') h2 hm fun _ _ _ => rfl) fun g hg hz => by
        have := (Jg h2 hg).1
        have := hZ g (yp.1 hz)
        omega
      exact ⟨v', p, h1, g1, g2, g3, h3⟩
    cases hv with
    | nil k a c =>
      cases a with
      | some a => exact zero a c rfl
      | none =>
        refine (hn c w).mono fun ex w' ⟨h1, h2⟩ => ?_
        subst h2
        obtain ⟨p, g1, g2, g3⟩ := fin (v' := .slice none 0 0) (w' := w') ⟨by simp, .inl ⟨rfl, rfl⟩⟩ fun g hg => by cases hg
        exact ⟨_, p, h1, g1, g2, g3, Below.refl _ _⟩
    | sl k xs b o c g hu hlen hz' hb h1 h2 => exact zero _ _ rfl
noncomputable def sUg (P : Program) (o : Oper) (E : EF) (G : EG) : Option SR := match o.op with
  | .slice t x (some y) none none => sSlF (esz P t) G (evE E x) (evE E y)
  | .call ⟨.builtin .copy, ⟨[x, y]⟩, ⟨[t, _]⟩⟩ => sCpy (esz P t) G (evE E x) (evE E y)
  | .convert t t' x => match P.underlying t with
    | some (.slice e) => match zfb P e with
      | some .u8 => match Yc P t' with
        | true => sB2S G (evE E x)
        | false => none
      | _ => none
    | _ => none
  | _ => none
theorem sUg_ok {P : Program} {o : Oper} {E : EF} {G : EG} {q : SR} (h : sUg P o E G = some q) : SOk P o E G q := by
  unfold sUg at h
  split at h <;> try (cases h; done)
  · rename_i ho; exact z3w ho h
  · rename_i ho; exact z26 ho h
  · rename_i ho
    split at h <;> try (cases h; done)
    rename_i hs
    split at h <;> try (cases h; done)
    rename_i he
    split at h <;> try (cases h; done)
    rename_i hd
    refine z25 ho hs (zeq he) ?_ h
    unfold Yc at hd
    split at hd
    · assumption
    · cases hd
noncomputable def z00 (ky : TypeId → Option KY) (prs : Nat → Prm) (fz : Nat → Nat → List (Nat × Ty)) (fr : Nat → Nat → Bool) (T : FuncId → Option FF) : Sy1 := fun ctx nid site o E G => match sUg Tryz.prog o E G with
  | some q => some q
  | none => z1c ky prs fz fr T ctx nid site o E G
theorem z1y {ky : TypeId → Option KY} (hky : znl Tryz.prog ky) {prs : Nat → Prm} {fz : Nat → Nat → List (Nat × Ty)} {fr : Nat → Nat → Bool} {T : FuncId → Option FF} (hT : zaf Tryz.prog T) (hS : ∀ c, Qh Tryz.prog (prs c).S) (hzt : ∀ c, zai Tryz.prog (prs c).zt) (hzt2 : ∀ c, zai Tryz.prog (prs c).zt2) : ∀ ctx nid site o E G q, z00 ky prs fz fr T ctx nid site o E G = some q → SOk Tryz.prog o E G q := fun ctx nid site o E G q h => by
  unfold z00 at h
  split at h
  · rename_i q' hq; cases h; exact sUg_ok hq
  · exact zzy hky hT hS hzt hzt2 _ _ _ _ _ _ _ h
def vS (σ : Nm → Option Nm) (V : Nm → Value) : Nm → Value := fun k => match σ k with
  | some i => V i
  | none => .slice none 0 0
inductive CR (H H2 : PHeap) (σ : Nm → Option Nm) : PV → PV → Prop
  | keep {p : PV} (hp : Fl p) : CR H H2 σ p p
  | nm {j k : Nm} {v1 v2 : Nat} (hσ : σ k = some j) (h1 : (H2 k).body.isSome = true → (H j).body.isSome = true ∧ (H j).ver = v1) (h2 : v2 ≤ (H2 k).ver) : CR H H2 σ (.ps j v1) (.ps k v2)
  | nil {k : Nm} {v2 : Nat} (hσ : σ k = none) (h2 : v2 ≤ (H2 k).ver) : CR H H2 σ (.u (.slice none 0 0)) (.ps k v2)
  | unk {p : PV} : CR H H2 σ p .unk
  | tup {xs ys : List PV} (hl : xs.length = ys.length) (h : ∀ (i : Nat) (p q : PV), xs[i]? = some p → ys[i]? = some q → CR H H2 σ p q) : CR H H2 σ (.tup xs) (.tup ys)
def CRL (H H2 : PHeap) (σ : Nm → Option Nm) (cs ds : List PV) : Prop := cs.length = ds.length ∧ ∀ (i : Nat) (p q : PV), cs[i]? = some p → ds[i]? = some q → CR H H2 σ p q
def Of (ids : List Nat) (k : Nm) : Prop := ∃ i ∈ ids, k.rt = some i
def BodyN (ids : List Nat) (H H2 : PHeap) (σ : Nm → Option Nm) (k : Nm) (bd : PBody) : Prop :=
  (σ k = none ∧ (∀ w m, bd.Is w m (.slice none 0 0) []) ∧ bd.cs = []) ∨
  ∃ j bd1, σ k = some j ∧ Of ids j ∧ (H j).body = some bd1 ∧ (∀ w m v vs, bd1.Is w m v vs → bd.Is w m v vs) ∧ CRL H H2 σ bd1.cs bd.cs
structure Tell (ids : List Nat) (H H2 : PHeap) (σ : Nm → Option Nm) : Prop where
  out : ∀ k, ¬ Of ids k → H2 k = H k ∧ σ k = some k
  old : ∀ k, Of ids k → (H k).ver ≤ (H2 k).ver ∧ ((H2 k).body.isSome = true → (H2 k).ver = (H k).ver → (H k).body.isSome = true ∧ σ k = some k)
  body : ∀ k bd, Of ids k → (H2 k).body = some bd → BodyN ids H H2 σ k bd
  inj : ∀ k k' j, Of ids k → Of ids k' → (H2 k).body.isSome = true → (H2 k').body.isSome = true → σ k = some j → σ k' = some j → k = k'
section
variable {P : Program} {W : Env} {n : Nat} {H H1 H2 : PHeap} {V : Nm → Value} {w : World} {F : PFrame} {ids : List Nat} {σ : Nm → Option Nm} {o : Oper} {p0 p1 : PV}
theorem Tell.hz (ht : Tell ids H H2 σ) {c : Nat} (h : ¬ PZ W.Z H V c) : ¬ PZ W.Z H2 (vS σ V) c := by
  refine zqb (fun k g hs hb => ?_) h
  by_cases hk : Of ids k
  · obtain ⟨bd, hbd⟩ := wcp.1 hs
    rcases ht.body k bd hk hbd with ⟨e, _⟩ | ⟨j, bd1, e, _, h1, _⟩
    · unfold vS at hb; rw [e] at hb; cases hb
    · exact ⟨j, by rw [h1]; rfl, by unfold vS; rw [e]⟩
  · obtain ⟨h1, h2⟩ := ht.out k hk
    exact ⟨k, by rw [← h1]; exact hs, by unfold vS; rw [h2]⟩
theorem Tell.rp (ht : Tell ids H H2 σ) {p : PV} {v : Value} (hp : Rp W.Z H V w p v) (hf : Fl p) : Rp W.Z H2 (vS σ V) w p v := by
  refine Rp.keep hp hf (fun c _ h => ht.hz h) fun i ver _ hle => ?_
  by_cases hk : Of ids i
  · obtain ⟨h1, h2⟩ := ht.old i hk
    refine ⟨wdo hle h1, fun h3 h4 => ?_⟩
    obtain ⟨h5, h6⟩ := h2 h3 (by omega)
    exact ⟨h5, by omega, by unfold vS; rw [h6]⟩
  · obtain ⟨h1, h2⟩ := ht.out i hk
    rw [h1]
    exact ⟨hle, fun a b => ⟨a, b, by unfold vS; rw [h2]⟩⟩
theorem Tell.cell (ht : Tell ids H H2 σ) {p q : PV} (hc : CR H H2 σ p q) {v : Value} (hp : Rp W.Z H V w p v) : Rp W.Z H2 (vS σ V) w q v := by
  induction hc generalizing v with
  | tup hl _ ih =>
    cases hp with
    | tup _ vs hl2 h2 =>
      refine .tup _ vs (by rw [← hl]; exact hl2) fun i q u h3 h4 => ?_
      have hlt := (wb3.1 h3).1
      rw [← hl] at hlt
      exact ih i _ q (wb5 hlt) h3 (h2 i _ u (wb5 hlt) h4)
  | keep hf => exact ht.rp hp hf
  | nm hσ h1 h2 =>
    cases hp with
    | ps _ _ _ _ h =>
      refine .ps _ _ _ h2 fun h3 _ => ?_
      obtain ⟨a, b⟩ := h1 h3
      unfold vS; rw [hσ]
      exact h a b
  | unk => exact .unk _
  | nil hσ h2 =>
    cases hp
    exact .ps _ _ _ h2 fun _ _ => by unfold vS; rw [hσ]
theorem Tell.heap (ht : Tell ids H H2 σ) (hr : HRel P W H V w) (hg : ∀ i, Fl (W.G i)) (hfl : ∀ k, FlB (H k)) : HRel P W H2 (vS σ V) w := by
  refine HRel.ren hr (fun k => (σ k).getD k) rfl rfl (fun i => ht.rp (hr.ghost i) (hg i)) (fun k bd hb => ?_) fun k k' g h1 h2 h3 h4 e => ?_
  · by_cases hk : Of ids k
    · rcases ht.body k bd hk hb with ⟨e, h1, h2⟩ | ⟨j, bd1, e, _, h1, h2, h3⟩
      · exact .inl ⟨by unfold vS; rw [e], h1 _ _, h2⟩
      · refine .inr ⟨bd1, by simp only [e, wct]; exact h1, by simp only [e, wct]; unfold vS; rw [e], fun vs k1 k2 => ?_⟩
        simp only [e, wct] at k1 ⊢
        refine ⟨h2 _ _ _ _ k1, by rw [← h3.1]; exact k2.1, fun i q v g1 g2 => ?_⟩
        have hlt : i < bd1.cs.length := by rw [h3.1]; exact (wb3.1 g1).1
        exact ht.cell (h3.2 i _ q (wb5 hlt) g1) (k2.2 i _ v (wb5 hlt) g2)
    · obtain ⟨h1, h2⟩ := ht.out k hk
      rw [h1] at hb
      refine .inr ⟨bd, by simp only [h2, wct]; exact hb, by simp only [h2, wct]; unfold vS; rw [h2], fun vs k1 k2 => ?_⟩
      simp only [h2, wct] at k1 ⊢
      exact ⟨k1, wae k2 fun c hc v hv => ht.rp hv (hfl k bd hb c hc)⟩
  · have live : ∀ {k : Nm}, (H2 k).body.isSome = true → jv (vS σ V k) = some g → ∃ j, σ k = some j ∧ (Of ids k → Of ids j) ∧ (¬ Of ids k → j = k) := fun {k} hs hb => by
      by_cases hk : Of ids k
      · obtain ⟨bd, hbd⟩ := wcp.1 hs
        rcases ht.body k bd hk hbd with ⟨e, _⟩ | ⟨j, bd1, e, hj, _⟩
        · unfold vS at hb; rw [e] at hb; cases hb
        · exact ⟨j, e, fun _ => hj, fun h => absurd hk h⟩
      · exact ⟨k, (ht.out k hk).2, fun h => absurd h hk, fun _ => rfl⟩
    obtain ⟨j, e1, a1, a2⟩ := live h1 h3
    obtain ⟨j', e2, b1, b2⟩ := live h2 h4
    simp only [e1, e2, wct] at e
    subst e
    by_cases hk : Of ids k
    · by_cases hk' : Of ids k'
      · exact ht.inj k k' j hk hk' h1 h2 e1 e2
      · rw [b2 hk'] at a1; exact absurd (a1 hk) hk'
    · by_cases hk' : Of ids k'
      · rw [a2 hk] at b1; exact absurd (b1 hk') hk
      · rw [← a2 hk, b2 hk']
theorem waf (h : PE P W n o F H fun p H' => p = p0 ∧ H' = H1) (hfl : FlW W F H) (hfl1 : ∀ k, FlB (H1 k)) (hd : Jc n o) (ht : Tell ids H1 H2 σ) (hc : CR H1 H2 σ p0 p1) : PE P W n o F H fun p H' => p = p1 ∧ H' = H2 := fun V a w hr =>
  Oper.wp_mono (fun a' w' ⟨p, H', V', ⟨e1, e2⟩, hr'⟩ => by
    subst e1; subst e2
    refine ⟨p1, H2, vS σ V', ⟨rfl, rfl⟩, ht.heap hr'.heap hfl.g hfl1, hr'.size, hr'.defers, fun t => ?_⟩
    have hs := hr'.slot t
    unfold PFrame.put at hs ⊢
    split
    · rename_i e; rw [if_pos e] at hs; exact ht.cell hc hs
    · rename_i e; rw [if_neg e] at hs; exact ht.rp hs (hfl.f t)) (h V a w hr)
end
def SPk (P : Program) (o : Oper) (E : EF) (G : EG) (q : SR) : Prop :=
  (∀ x, (q.w x).map Prod.fst = q.tc) ∧ ∀ x, q.o = some x → ∀ W n F H, FlW W F H → Jc n o → Agr o E G (q.rd ++ q.tc) F H → PE P W n o F H (fun p H' => p = (q.s x).den ∧ H' = qf H (q.w x))
def SR.kP (q : SR) : SK := ⟨fun k => zty q fun x => k (q.s x) (q.w x) ⟨q.rd, q.tc⟩⟩
theorem SPk.k {P : Program} {o : Oper} {E : EF} {G : EG} {q : SR} (h : SPk P o E G q) : zer P o E G q.kP := fun k r hr => by
  obtain ⟨x, hx, hk⟩ := zo9 hr
  refine ⟨q.s x, q.w x, ⟨q.rd, q.tc⟩, hk, fun k2 => ?_, fun id hid => by rw [h.1 x] at hid; exact hid, fun W n F H hfl hd hF hH => h.2 x hx W n F H hfl hd ⟨hF, fun id hid => hH id (by rw [h.1 x]; exact wcr.1 hid)⟩⟩
  show zty q _ = _
  unfold zty
  rw [hx]
  cases q.imm <;> rfl
section
variable {P : Program} {W : Env} {n : Nat} {o : Oper} {E : EF} {F : PFrame} {H : PHeap} {G : EG}
def ksetO {α : Type} (c : Option (List α)) (l : List (List α)) (p i : Int) (u : α) : Option (List (List α)) := ja c fun r => ja (zx r i u) fun r' => some (l.set p.toNat r')
def sKel (ag : Bool) (k : Nat) (G : EG) (x y : TS) : Option SR := match okT G y with
  | false => none
  | true => match x with
    | .kel id p w i off v => match Nat.beq (G id).cv v with
      | true => match (G id).b with
        | some (.rows tid it t l kv h) => match Nat.beq w (wid t) && (Nat.beq off 0 && Nat.beq k w) with
          | true => match toT t y with
            | some u => some ⟨List (List t.D), false, ksetO (Kids.at ⟨t, it, l, h⟩ p) l p i u, fun _ => UND, fun l' => [(id, ⟨(G id).ver, some (.rows tid it t l' kv h)⟩)], zc9 y, [id], []⟩
            | none => none
          | false => none
        | _ => none
      | false => none
    | _ => none
theorem zzl {id j tid it kv : Nat} {t : Ty} {l : List (List t.D)} {r : List t.D} {h : Hole} (hn : AgN H G id) (hb : (G id).b = some (.rows tid it t l kv h)) (hp : h.is j = false) (hl : j < l.length) :
    H.set (.c id j) ⟨(G id).cv, some (.row it (wid t) r.length (r.flatMap (je t)))⟩ = qf H [(id, ⟨(G id).ver, some (.rows tid it t (l.set j r) kv h)⟩)] := by
  have hcv : (G id).cv = (⟨(G id).ver, some (.rows tid it t (l.set j r) kv h)⟩ : GB).cv := by
    unfold GB.cv; rw [hb]; rfl
  funext k
  simp only [qf, zcj]
  by_cases e : k.rt = some id
  · rw [if_pos e]
    cases k with
    | r _ => cases e
    | o i =>
      cases e
      simp only [PHeap.set, reduceCtorEq, if_false, ym]
      rw [hn.1]
      unfold qr
      rw [← hcv, hb]
      simp [BD.den]
    | c i m =>
      cases e
      simp only [PHeap.set, Nm.c.injEq, true_and, ym]
      by_cases em : m = j
      · subst em
        simp [Qp, ← hcv, BD.ch, hp, hl]
      · rw [if_neg em, hn.2]
        simp only [Qp, ← hcv, hb, wc4, BD.ch]
        rw [wd5 (Ne.symm em)]
  · rw [if_neg e]
    unfold PHeap.set
    rw [if_neg]
    intro e2; rw [e2] at e; exact e rfl
theorem z2o {t k : Nat} {ag : Bool} {x y : Operand} {q : SR} (ho : o.op = .store t x y) (ht : asz P t = some (ag, k)) (h : sKel ag k G (evE E x) (evE E y) = some q) : SPk P o E G q := by
  have hx' : x ∈ o.op.operands := by rw [ho]; simp [Op.operands]
  have hy' : y ∈ o.op.operands := by rw [ho]; simp [Op.operands]
  unfold sKel at h
  split at h
  · cases h
  rename_i hok
  split at h <;> try (cases h; done)
  rename_i id p w i off v hx
  split at h <;> try (cases h; done)
  rename_i hv
  cases ju hv
  split at h <;> try (cases h; done)
  rename_i tid it ty l kv hh hb
  split at h <;> try (cases h; done)
  rename_i hc
  simp only [wb6] at hc
  have ew := wb2 hc.1
  have eo := wb2 hc.2.1
  have ek := wb2 hc.2.2
  split at h <;> cases h
  rename_i u hu
  subst eo
  refine ⟨fun _ => rfl, fun l' hl' W n F H hfl hdo hag => ?_⟩
  obtain ⟨r, hr, hl'⟩ := qg hl'
  obtain ⟨r', hr', hl'⟩ := qg hl'
  cases hl'
  obtain ⟨hi, rfl⟩ := Vn hr'
  have hn := hag.hn id (by simp)
  have hbody := zaw (H := H) (k := ⟨ty, it, l, hh⟩) (id := id) (v := (G id).cv) (by unfold zcr; rw [wdm, hb]; rfl) hr hn
  obtain ⟨h0, hlp, hhp⟩ := wai hr
  simp only at hbody hlp hhp hi
  have hyv := hag.ev hy'
  have hT := (Qr _ _ _ hu).1
  have hlenl : (r.flatMap (je ty)).length = r.length * wid ty := ye _ _ _ fun x _ => jn ty x
  have hyl : (evE E y).den.cells.length = k := by rw [hT.1, jn, ek, ew]
  suffices key : PE P W n o F H fun p' H' => p' = UND.den ∧ H' = H.set (.c id p.toNat) ⟨(G id).cv, some (.row it (wid ty) (r.set i.toNat u).length ((r.set i.toNat u).flatMap (je ty)))⟩ from
    PE.mono key fun p' H' e => ⟨e.1, e.2.trans (zzl (r := r.set i.toNat u) hn hb hhp (wb3.1 hlp).1)⟩
  refine wah (bd := .row it (wid ty) r.length (setMany (r.flatMap (je ty)) (i.toNat * wid ty) (evE E y).den.cells)) (bd' := .row it (wid ty) (r.set i.toNat u).length ((r.set i.toNat u).flatMap (je ty))) (by rw [← zlg hi, wd0]; exact .row (hT.setMany2 _ _)) (by rw [und_den]; exact Ref.refl _) hdo ?_
  refine PE.store (id := .c id p.toNat) (off := i.toNat * w + 0) (ver := (G id).cv) (cs := r.flatMap (je ty)) (bd := .row it (wid ty) r.length (r.flatMap (je ty))) ho hdo (by rw [hag.ev hx', hx]; simp only [TS.den]) (by unfold jx; rw [hbody]; simp) ht (by rw [hyv]; exact Ys hok fun i hi => hag.h i (by simp [hi])) (by rw [hyv]; exact hyl) ?_ (by rw [hbody]) ⟨rfl, ?_⟩
  · rw [hlenl, ek, ew, wdb]
    have : (i.toNat + 1) * wid ty ≤ r.length * wid ty := wdd _ hi
    rwa [wek] at this
  · rw [hyv, wdb, ew]; rfl
theorem z1j {cs : List PV} (h : ∀ c ∈ cs, NoP c) {H1 H2 : PHeap} {σ : Nm → Option Nm} : CRL H1 H2 σ cs cs := ⟨rfl, fun i p q h1 h2 => by rw [h1] at h2; cases h2; exact .keep (.noP (h p (wb8 h1)))⟩
theorem zcu {t : Ty} {r : List t.D} : ∀ c ∈ r.flatMap (je t), NoP c := fun c hc => by
  obtain ⟨x, _, hx⟩ := wcu.1 hc
  exact q7 t x c hx
def kidB (it : TypeId) (t : Ty) (l : List (List t.D)) (h : Hole) (j : Nat) : Option PBody := match h.is j with
  | true => none
  | false => (l[j]?).map fun r => .row it (wid t) r.length (r.flatMap (je t))
theorem zok {H1 H2 : PHeap} {σ : Nm → Option Nm} {D : List Nat} {id it ver ver1 kv : Nat} {t : Ty} {l : List (List t.D)} {h : Hole} {bd1 bd2 : PBody}
    (hout : ∀ k, ¬ Of (id :: D) k → H2 k = H1 k ∧ σ k = some k) (hido : H2 (.o id) = ⟨ver, some bd2⟩) (hidc : ∀ j, H2 (.c id j) = ⟨ver + kv, kidB it t l h j⟩)
    (hD : ∀ k, Of D k → ((H2 k).body = none ∧ (H1 k).ver ≤ (H2 k).ver) ∨ ((H1 k).ver < (H2 k).ver ∧ ∃ x bd, σ k = some x ∧ Of (id :: D) x ∧ (H2 k).body = some bd ∧ (H1 x).body = some bd ∧ ∀ c ∈ bd.cs, NoP c))
    (h1 : H1 (.o id) = ⟨ver1, some bd1⟩) (hver : ver1 ≤ ver) (hσ : σ (.o id) = some (.o id)) (hv : ∀ j, (H1 (.c id j)).ver < ver + kv) (hlen : bd1.cs.length = l.length)
    (his : ∀ w m v vs, bd1.Is w m v vs → bd2.Is w m v vs) (hcs : bd2.cs = (range l.length).map (h.cell id (ver + kv)))
    (hc : ∀ j r, h.is j = false → l[j]? = some r → (∃ x v, bd1.cs[j]? = some (.ps x v) ∧ σ (.c id j) = some x ∧ Of (id :: D) x ∧ H1 x = ⟨v, some (.row it (wid t) r.length (r.flatMap (je t)))⟩) ∨ (r = [] ∧ bd1.cs[j]? = some (.u (.slice none 0 0)) ∧ σ (.c id j) = none))
    (hinj : ∀ k k' x, Of (id :: D) k → Of (id :: D) k' → (H2 k).body.isSome = true → (H2 k').body.isSome = true → σ k = some x → σ k' = some x → k = k') : Tell (id :: D) H1 H2 σ := by
  have hOf : ∀ {k : Nm}, Of (id :: D) k → k.rt = some id ∨ Of D k := fun {k} ⟨i, hi, e⟩ => by
    rcases wck.1 hi with rfl | hi
    · exact .inl e
    · exact .inr ⟨i, hi, e⟩
  have hme : Of (id :: D) (.o id) := ⟨id, by simp, rfl⟩
  refine ⟨hout, fun k hk => ?_, fun k bd hk hb => ?_, hinj⟩
  · rcases hOf hk with e | hk
    · cases k with
      | r _ => cases e
      | o i =>
        cases e
        rw [hido, h1]
        exact ⟨hver, fun _ _ => ⟨rfl, hσ⟩⟩
      | c i j =>
        cases e
        rw [hidc]
        have := hv j
        exact ⟨Nat.le_of_lt this, fun _ e => by simp only at e; omega⟩
    · rcases hD k hk with ⟨e, e2⟩ | ⟨e, _⟩
      · exact ⟨e2, fun e3 => by rw [e] at e3; cases e3⟩
      · exact ⟨by omega, fun _ e2 => by omega⟩
  · rcases hOf hk with e | hk'
    · cases k with
      | r _ => cases e
      | o i =>
        cases e
        rw [hido] at hb
        cases hb
        refine .inr ⟨.o id, bd1, hσ, hme, by rw [h1], his, by rw [hcs]; simp [hlen], fun j p q hp hq => ?_⟩
        rw [hcs, wb9] at hq
        obtain ⟨j', hj, rfl⟩ := wca.1 hq
        have hjl := (wb3.1 hj).1
        have e : j' = j := by
          have := (wb3.1 hj).2
          simpa using this.symm
        subst e
        have hjl : j' < l.length := by simpa using hjl
        unfold Hole.cell
        split
        · exact .unk
        · rename_i e
          have hvv : (H2 (.c id j')).ver = ver + kv := by rw [hidc]
          rcases hc j' _ (by simpa using e) (wb5 hjl) with ⟨x, v, c1, c2, c3, c4⟩ | ⟨_, c1, c2⟩
          · rw [c1] at hp; cases hp
            exact .nm c2 (fun _ => by rw [c4]; exact ⟨rfl, rfl⟩) (by rw [hvv]; exact wb7 _)
          · rw [c1] at hp; cases hp
            exact .nil c2 (by rw [hvv]; exact wb7 _)
      | c i j =>
        cases e
        rw [hidc] at hb
        simp only [kidB] at hb
        split at hb <;> try (cases hb; done)
        rename_i e
        obtain ⟨r, h2, rfl⟩ := wca.1 hb
        rcases hc j r e h2 with ⟨x, v, c1, c2, c3, c4⟩ | ⟨rfl, c1, c2⟩
        · exact .inr ⟨x, _, c2, c3, by rw [c4], fun w m v vs h => h, z1j zcu⟩
        · refine .inl ⟨c2, fun w m => ?_, rfl⟩
          exact ⟨⟨by simp, .inl ⟨rfl, rfl⟩⟩, fun u hu => by cases hu⟩
    · rcases hD k hk' with ⟨e, _⟩ | ⟨_, x, bd', h2, h3, h4, h5, h6⟩
      · rw [e] at hb; cases hb
      · rw [hb] at h4; cases h4
        exact .inr ⟨x, _, h2, h3, h5, fun w m v vs h => h, z1j h6⟩
theorem zdo {H1 H2 : PHeap} {σ : Nm → Option Nm} {D : List Nat} {id tid it ver ver1 kv : Nat} {t : Ty} {l : List (List t.D)} {h : Hole} {cs : List PV}
    (hout : ∀ k, ¬ Of (id :: D) k → H2 k = H1 k ∧ σ k = some k) (hid : ∀ k : Nm, k.rt = some id → H2 k = ym ⟨ver, some (.rows tid it t l kv h)⟩ k)
    (hD : ∀ k, Of D k → ((H2 k).body = none ∧ (H1 k).ver ≤ (H2 k).ver) ∨ ((H1 k).ver < (H2 k).ver ∧ ∃ x bd, σ k = some x ∧ Of (id :: D) x ∧ (H2 k).body = some bd ∧ (H1 x).body = some bd ∧ ∀ c ∈ bd.cs, NoP c))
    (hDi : id ∉ D) (h1 : H1 (.o id) = ⟨ver1, some (.row tid 1 l.length cs)⟩) (hver : ver1 ≤ ver) (hσ : σ (.o id) = some (.o id)) (hv : ∀ j, (H1 (.c id j)).ver < ver + kv) (hlen : cs.length = l.length)
    (hc : ∀ j r, h.is j = false → l[j]? = some r → (∃ x v, cs[j]? = some (.ps x v) ∧ σ (.c id j) = some x ∧ Of (id :: D) x ∧ H1 x = ⟨v, some (.row it (wid t) r.length (r.flatMap (je t)))⟩) ∨ (r = [] ∧ cs[j]? = some (.u (.slice none 0 0)) ∧ σ (.c id j) = none))
    (hinj : ∀ k k' x, Of (id :: D) k → Of (id :: D) k' → (H2 k).body.isSome = true → (H2 k').body.isSome = true → σ k = some x → σ k' = some x → k = k') : Tell (id :: D) H1 H2 σ :=
  zok (bd1 := .row tid 1 l.length cs) (bd2 := .row tid 1 l.length ((range l.length).map (h.cell id (ver + kv)))) hout (hid (.o id) rfl) (fun j => hid (.c id j) rfl) hD h1 hver hσ hv hlen (fun w m v vs h => h) rfl hc hinj
def zhv (G : EG) (it : TypeId) (t : Ty) : TS → Option (Nat × List t.D)
  | .own c vc => match Nat.beq (G c).ver vc with
    | true => match (G c).b with
      | some (.row tid t' r) => match Nat.beq tid it with
        | true => match Dyn.as ⟨.sl t', r⟩ (.sl t) with
          | some r => some (c, r)
          | none => none
        | false => none
      | _ => none
    | false => none
  | _ => none
theorem Z5 {it : TypeId} {t : Ty} {y : TS} {c : Nat} {r : List t.D} (h : zhv G it t y = some (c, r)) : y = .own c (G c).ver ∧ (G c).b = some (.row it t r) := by
  unfold zhv at h
  split at h <;> try (cases h; done)
  split at h <;> try (cases h; done)
  rename_i hv
  split at h <;> try (cases h; done)
  rename_i hb
  split at h <;> try (cases h; done)
  rename_i ht
  split at h <;> cases h
  rename_i hd
  cases wac hd
  rw [ju hv, ← ju ht]
  exact ⟨rfl, hb⟩
theorem za4 {k0 : Nm} {v tid m j : Nat} {cs : List PV} (h : ∀ k, FlB (H k)) (hc : ∀ c ∈ cs, Fl c) : ∀ k, FlB ((H.set k0 ⟨v, some (.row tid m j cs)⟩) k) := fun k => by
  unfold PHeap.set
  split
  · intro bd hb; cases hb; exact hc
  · exact h k
theorem zfm {id v : Nat} {h : Hole} {m : Nat} : ∀ c ∈ (range m).map (h.cell id v), Fl c := fun c hc => by
  obtain ⟨j, _, rfl⟩ := wcf.1 hc
  unfold Hole.cell
  split
  · exact .unk
  · exact .ps trivial
theorem J0 {id v : Nat} {h : Hole} {m j : Nat} (hj : j < m) : ((range m).map (h.cell id v))[j]? = some (h.cell id v j) := by
  simp [List.getElem?_range hj]
theorem zvb {id tid it kv : Nat} {t : Ty} {l : List (List t.D)} {h : Hole} (hn : AgN H G id) (hb : (G id).b = some (.rows tid it t l kv h)) : H (.o id) = ⟨(G id).ver, some (.row tid 1 l.length ((range l.length).map (h.cell id (G id).cv)))⟩ ∧ (G id).cv = (G id).ver + kv ∧ (∀ j, (H (.c id j)).ver = (G id).cv) ∧ ∀ j r, h.is j = false → l[j]? = some r → H (.c id j) = ⟨(G id).cv, some (.row it (wid t) r.length (r.flatMap (je t)))⟩ := by
  refine ⟨?_, by unfold GB.cv; rw [hb]; rfl, fun j => by rw [hn.2]; rfl, fun j r h1 h2 => ?_⟩
  · rw [hn.1]; unfold qr; rw [hb]; rfl
  · rw [hn.2]; unfold Qp; rw [hb]; simp [BD.ch, h1, h2]
theorem zr9 {c it : Nat} {t : Ty} {r : List t.D} (hn : AgN H G c) (hb : (G c).b = some (.row it t r)) : H (.o c) = ⟨(G c).ver, some (.row it (wid t) r.length (r.flatMap (je t)))⟩ := by
  rw [hn.1]; unfold qr; rw [hb]; rfl
theorem zid {c : Nat} {H2 : PHeap} (hn : AgN H G c) (h2 : ∀ k : Nm, k.rt = some c → H2 k = ym ⟨(G c).cv + 1, none⟩ k) {k : Nm} (hk : k.rt = some c) : (H2 k).body = none ∧ (H k).ver ≤ (H2 k).ver := by
  rw [h2 k hk, hn.at hk]
  cases k <;> cases hk
  · exact ⟨rfl, Nat.le_succ_of_le (GB.ver_le _)⟩
  · exact ⟨rfl, Nat.le_succ _⟩
def zwe {α : Type} (h : Hole) (l : List (List α)) (p : Int) (r : List α) : Option (List (List α)) := match h with
  | none => zx l p r
  | some x => match Nat.beq p.toNat x with
    | true => zx l p r
    | false => none
theorem zvg {α : Type} {h : Hole} {l l' : List (List α)} {p : Int} {r : List α} (hr : zwe h l p r = some l') : p.toNat < l.length ∧ l' = l.set p.toNat r ∧ ∀ j, j ≠ p.toNat → h.is j = false := by
  unfold zwe at hr
  split at hr
  · exact ⟨(Vn hr).1, (Vn hr).2, fun j _ => rfl⟩
  · split at hr <;> try (cases hr; done)
    rename_i e
    refine ⟨(Vn hr).1, (Vn hr).2, fun j hj => ?_⟩
    simp only [Hole.is]
    cases h : Nat.beq j _
    · rfl
    · exact absurd ((ju h).trans (ju e).symm) hj
def sRst (ag : Bool) (k : Nat) (G : EG) (x y : TS) : Option SR := match x with
  | .elt id w p off ver => match Nat.beq (G id).ver ver && (Nat.beq w 1 && (Nat.beq off 0 && (Nat.beq k 1 && !ag))) with
    | true => match (G id).b with
      | some (.rows tid it t l kv h) => match zhv G it t y with
        | some r => match Nat.beq r.1 id with
          | false => some ⟨List (List t.D), false, zwe h l p r.2, fun _ => UND, fun l' => [(id, ⟨(G id).ver, some (.rows tid it t l' (kv + 1) none)⟩), (r.1, ⟨(G r.1).cv + 1, none⟩)], [], [id, r.1], []⟩
          | true => none
        | none => none
      | _ => none
    | false => none
  | _ => none
theorem z3l {t k : Nat} {ag : Bool} {x y : Operand} {q : SR} (ho : o.op = .store t x y) (ht : asz P t = some (ag, k)) (h : sRst ag k G (evE E x) (evE E y) = some q) : SPk P o E G q := by
  have hx' : x ∈ o.op.operands := by rw [ho]; simp [Op.operands]
  have hy' : y ∈ o.op.operands := by rw [ho]; simp [Op.operands]
  unfold sRst at h
  split at h <;> try (cases h; done)
  rename_i id w p off ver hx
  split at h <;> try (cases h; done)
  rename_i hc
  simp only [wb6, wc5] at hc
  obtain ⟨c1, c2, c3, c4, c5⟩ := hc
  cases ju c1; cases ju c2; cases ju c3; cases ju c4; subst c5
  split at h <;> try (cases h; done)
  rename_i tid it ty l kv hh hb
  split at h <;> try (cases h; done)
  rename_i r hr
  obtain ⟨c, r⟩ := r
  obtain ⟨hy, hcb⟩ := Z5 hr
  split at h <;> cases h
  rename_i hne
  have hne : c ≠ id := fun e => by subst e; simp at hne
  refine ⟨fun _ => rfl, fun l' hl' W n F H hfl hdo hag => ?_⟩
  obtain ⟨hlt, rfl, hhole⟩ := zvg hl'
  have hn := hag.hn id (by simp)
  have hnc := hag.hn c (by simp)
  obtain ⟨r1, r2, r3, r4⟩ := zvb hn hb
  have ro := zr9 hnc hcb
  have hyv : evP F y = .ps (.o c) (G c).ver := by rw [hag.ev hy', hy]; simp only [TS.den]
  have hcl : ((range l.length).map (hh.cell id (G id).cv)).length = l.length := by simp
  have key : PE P W n o F H fun p' H' => p' = UND.den ∧ H' = H.set (.o id) ⟨(G id).ver, some (.row tid 1 l.length (setMany ((range l.length).map (hh.cell id (G id).cv)) (p.toNat * 1 + 0) [.ps (.o c) (G c).ver]))⟩ := by
    refine PE.store (id := .o id) (off := p.toNat * 1 + 0) (ver := (G id).ver) (cs := (range l.length).map (hh.cell id (G id).cv)) (bd := .row tid 1 l.length ((range l.length).map (hh.cell id (G id).cv))) ho hdo (by rw [hag.ev hx', hx]; simp only [TS.den]) (by unfold jx; rw [r1]; simp) ht (by rw [hyv]; simp [okC, yj, ro]) (by rw [hyv]; rfl) (by rw [hcl]; omega) (by rw [r1]) ⟨by rw [und_den], ?_⟩
    rw [hyv]; rfl
  have hnd : (([(id, (⟨(G id).ver, some (.rows tid it ty (l.set p.toNat r) (kv + 1) none)⟩ : GB)), (c, ⟨(G c).cv + 1, none⟩)] : List (Nat × GB)).map Prod.fst).Nodup := by simp [Ne.symm hne]
  have hset : ∀ {k : Nm}, k ≠ .o id → (H.set (.o id) ⟨(G id).ver, some (.row tid 1 l.length (setMany ((range l.length).map (hh.cell id (G id).cv)) (p.toNat * 1 + 0) [.ps (.o c) (G c).ver]))⟩) k = H k := fun {k} hk => by unfold PHeap.set; rw [if_neg hk]
  have hat : ∀ j, (setMany ((range l.length).map (hh.cell id (G id).cv)) (p.toNat * 1 + 0) [.ps (.o c) (G c).ver])[j]? = if j = p.toNat then some (.ps (.o c) (G c).ver) else ((range l.length).map (hh.cell id (G id).cv))[j]? := fun j => by
    rw [Jh _ _ _ (by rw [hcl, wcw]; omega)]
    by_cases e : j = p.toNat
    · subst e; simp
    · rw [if_neg (by simp; omega), if_neg e]
  have h2c : ∀ k : Nm, k.rt = some c → qf H [(id, ⟨(G id).ver, some (.rows tid it ty (l.set p.toNat r) (kv + 1) none)⟩), (c, ⟨(G c).cv + 1, none⟩)] k = ym ⟨(G c).cv + 1, none⟩ k := fun k hk => vn hnd (by simp) hk
  show PE P W n o F H fun p' H' => p' = UND.den ∧ H' = qf H [(id, ⟨(G id).ver, some (.rows tid it ty (l.set p.toNat r) (kv + 1) none)⟩), (c, ⟨(G c).cv + 1, none⟩)]
  refine waf key hfl (za4 hfl.h fun x hx => ?_) hdo (zdo (id := id) (D := [c]) (ver := (G id).ver) (kv := kv + 1) (tid := tid) (it := it) (t := ty) (l := l.set p.toNat r) (h := none) (σ := fun k => if k = .c id p.toNat then some (.o c) else some k) (fun k hk => ?_) (fun k hk => vn hnd (by simp) hk) (fun k hk => .inl ?_) (by simp [Ne.symm hne]) (by unfold PHeap.set; rw [if_pos rfl, wd0]) (wb7 _) (by simp) (fun j => ?_) ?_ (fun j r' hj hr' => .inl ?_) fun k k' x hk hk' hl1 hl2 e1 e2 => ?_) (.keep (Jv _))
  · rcases Yb hx with h | h
    · exact zfm _ h
    · simp only [wcb] at h; subst h; exact .ps trivial
  · rw [hset fun e => hk ⟨id, by simp, by rw [e]; rfl⟩, if_neg fun e => hk ⟨id, by simp, by rw [e]; rfl⟩]
    exact ⟨yu fun i hi e => hk ⟨i, hi, e⟩, rfl⟩
  · obtain ⟨i, hi, e⟩ := hk
    simp only [wcb] at hi; subst hi
    rw [hset fun e2 => by rw [e2] at e; cases e; exact hne rfl]
    exact zid hnc h2c e
  · rw [hset (by simp), r3, r2]; omega
  · rw [yq _ _ _ (by rw [hcl, wcw]; omega), hcl, wd0]
  · rw [hat]
    by_cases e : j = p.toNat
    · subst e
      rw [wea hlt] at hr'
      cases hr'
      refine ⟨.o c, _, by rw [if_pos rfl], by rw [if_pos rfl], ⟨c, by simp, rfl⟩, ?_⟩
      rw [hset (by simp [hne]), ro]
    · rw [wd5 (Ne.symm e)] at hr'
      have hj := hhole j e
      refine ⟨.c id j, (G id).cv, ?_, by rw [if_neg (by simp [e])], ⟨id, by simp, rfl⟩, ?_⟩
      · rw [if_neg e, J0 (wb3.1 hr').1]
        unfold Hole.cell; rw [hj]
      · rw [hset (by simp)]; exact r4 j r' hj hr'
  · have hno : ∀ {k : Nm}, (qf H [(id, ⟨(G id).ver, some (.rows tid it ty (l.set p.toNat r) (kv + 1) none)⟩), (c, ⟨(G c).cv + 1, none⟩)] k).body.isSome = true → k ≠ .o c := fun {k} hk e => by
      subst e; rw [(zid hnc h2c (k := .o c) rfl).1] at hk; cases hk
    split at e1 <;> split at e2
    · rename_i a b; rw [a, b]
    · cases e1; cases e2; exact absurd rfl (hno hl2)
    · cases e1; cases e2; exact absurd rfl (hno hl1)
    · cases e1; cases e2; rfl
theorem v8 {k0 k : Nm} {b : zd4} (h : k ≠ k0) : (H.set k0 b) k = H k := by unfold PHeap.set; rw [if_neg h]
def kapO {α : Type} (b : Nat) (c : Option (List α)) (xs : List α) : Option (List α) := ja c fun r => apO b r xs
def sKap (se : SE) (o : Oper) (G : EG) (nid : Nat) (s x : TS) : Option SR := match vz o with
  | false => none
  | true => match se with
    | none => none
    | some (e, k, b, _) => match s with
      | .kid id p v => match Nat.beq (G id).cv v && !(Nat.beq nid id) with
        | true => match (G id).b with
          | some (.rows tid it t l kv none) => match Nat.beq it e && (Nat.beq (wid t) k && Ya t) with
            | true => match zsq t G x with
              | some r => some ⟨List t.D, false, kapO b (Kids.at ⟨t, it, l, none⟩ p) r.1, fun _ => .own nid ((G nid).cv + 1), fun l' => [(id, ⟨(G id).ver, some (.rows tid it t l (kv + 2) (some p.toNat))⟩), (nid, ⟨(G nid).cv + 1, some (.row it t l')⟩)], r.2, [id, nid], []⟩
              | none => none
            | false => none
          | _ => none
        | false => none
      | _ => none
theorem z16 {t : Nat} {s x : Operand} {nid : Nat} {q : SR} (ho : o.op = .call { callee := .builtin .append, args := #[s, x], argTypes := #[t, t] }) (h : sKap (q6 P t) o G nid (evE E s) (evE E x) = some q) : SPk P o E G q := by
  have hs' : s ∈ o.op.operands := by rw [ho]; simp [Op.operands, Call.operands]
  have hx' : x ∈ o.op.operands := by rw [ho]; simp [Op.operands, Call.operands]
  unfold sKap at h
  split at h
  · cases h
  rename_i hd
  obtain ⟨d, hd⟩ := qz hd
  split at h
  · cases h
  rename_i e k b z hse
  split at h <;> try (cases h; done)
  rename_i id p v hs
  split at h <;> try (cases h; done)
  rename_i hv
  simp only [wb6, wc5] at hv
  cases ju hv.1
  have hne : nid ≠ id := fun e => by subst e; simp at hv
  split at h <;> try (cases h; done)
  rename_i tid it ty l kv hb
  split at h <;> try (cases h; done)
  rename_i hc
  simp only [wb6] at hc
  have e1 := wb2 hc.1
  have e2 := wb2 hc.2.1
  subst e1; subst e2
  split at h <;> cases h
  rename_i xs hr
  refine ⟨fun _ => rfl, fun l' hl' W n F H hfl hdo hag => ?_⟩
  obtain ⟨r, hr0, hl'⟩ := qg hl'
  obtain ⟨b1, b2, rfl⟩ := Vb hl'
  have hn := hag.hn id (by simp)
  have hnn := hag.hn nid (by simp)
  obtain ⟨r1, r2, r3, r4⟩ := zvb hn hb
  have hbody := zaw (H := H) (k := ⟨ty, it, l, none⟩) (id := id) (v := (G id).cv) (by unfold zcr; rw [wdm, hb]; rfl) hr0 hn
  simp only at hbody
  have hsrc := zds (H := H) hr rfl fun i hi => hag.h i (by simp [hi])
  have key : PE P W n o F H fun p' H' => p' = .ps (.c id p.toNat) ((G id).cv + 1) ∧ H' = H.set (.c id p.toNat) ⟨(G id).cv + 1, some (.row it (wid ty) (r.length + xs.1.length) (r.flatMap (je ty) ++ xs.1.flatMap (je ty)))⟩ :=
    PE.append (id := .c id p.toNat) (ver := (G id).cv) (m := r.length) (m2 := xs.1.length) (cs := r.flatMap (je ty)) (cs2 := xs.1.flatMap (je ty)) ho hd (hdo d hd) hse (by rw [hag.ev hs', hs]; simp only [TS.den]) (by unfold yh; rw [hbody]; simp) (by rw [hag.ev hx']; exact hsrc) (Y4 hc.2.2 _) b1 b2 ⟨rfl, rfl⟩
  have hnd : (([(id, (⟨(G id).ver, some (.rows tid it ty l (kv + 2) (some p.toNat))⟩ : GB)), (nid, ⟨(G nid).cv + 1, some (.row it ty (r ++ xs.1))⟩)] : List (Nat × GB)).map Prod.fst).Nodup := by simp [Ne.symm hne]
  have h2n : ∀ k : Nm, k.rt = some nid → qf H [(id, ⟨(G id).ver, some (.rows tid it ty l (kv + 2) (some p.toNat))⟩), (nid, ⟨(G nid).cv + 1, some (.row it ty (r ++ xs.1))⟩)] k = ym ⟨(G nid).cv + 1, some (.row it ty (r ++ xs.1))⟩ k := fun k hk => vn hnd (by simp) hk
  have h2i : ∀ k : Nm, k.rt = some id → qf H [(id, ⟨(G id).ver, some (.rows tid it ty l (kv + 2) (some p.toNat))⟩), (nid, ⟨(G nid).cv + 1, some (.row it ty (r ++ xs.1))⟩)] k = ym ⟨(G id).ver, some (.rows tid it ty l (kv + 2) (some p.toNat))⟩ k := fun k hk => vn hnd (by simp) hk
  show PE P W n o F H fun p' H' => p' = (TS.own nid ((G nid).cv + 1)).den ∧ H' = qf H [(id, ⟨(G id).ver, some (.rows tid it ty l (kv + 2) (some p.toNat))⟩), (nid, ⟨(G nid).cv + 1, some (.row it ty (r ++ xs.1))⟩)]
  refine waf (ids := [id, nid]) (σ := fun k => if k = .o nid then some (.c id p.toNat) else some k) key hfl (za4 hfl.h fun x hx => ?_) hdo (zdo (id := id) (D := [nid]) (ver := (G id).ver) (ver1 := (G id).ver) (kv := kv + 2) (tid := tid) (it := it) (t := ty) (l := l) (h := some p.toNat) (cs := (range l.length).map (Hole.cell id (G id).cv none)) (fun k hk => ?_) h2i (fun k hk => ?_) (by simp [Ne.symm hne]) (by rw [v8 (by simp)]; exact r1) (wb7 _) (by rw [if_neg (by simp [Ne.symm hne])]) (fun j => ?_) (by simp) (fun j r' hj hr' => .inl ?_) fun k k' x hk hk' hl1 hl2 e1 e2 => ?_) ?_
  · rcases wcr.1 hx with h | h <;> exact .noP (zcu _ h)
  · rw [v8 fun e => hk ⟨id, by simp, by rw [e]; rfl⟩, if_neg fun e => hk ⟨nid, by simp, by rw [e]; rfl⟩]
    exact ⟨yu fun i hi e => hk ⟨i, hi, e⟩, rfl⟩
  · obtain ⟨i, hi, e⟩ := hk
    simp only [wcb] at hi; subst hi
    rw [v8 fun e2 => by rw [e2] at e; cases e; exact hne rfl, h2n k e, hnn.at e]
    cases k with
    | r _ => cases e
    | c i j => cases e; exact .inl ⟨rfl, Nat.le_succ _⟩
    | o i =>
      cases e
      refine .inr ⟨Nat.lt_succ_of_le (GB.ver_le _), .c id p.toNat, _, by rw [if_pos rfl], ⟨id, by simp, rfl⟩, rfl, ?_, fun c hc => zcu c hc⟩
      unfold PHeap.set; rw [if_pos rfl]
      simp [BD.den]
  · by_cases e : j = p.toNat
    · subst e; unfold PHeap.set; rw [if_pos rfl]; simp only; omega
    · rw [v8 (by simp [e]), r3]; omega
  · have e : j ≠ p.toNat := fun e => by subst e; simp [Hole.is] at hj
    refine ⟨.c id j, (G id).cv, ?_, by rw [if_neg (by simp)], ⟨id, by simp, rfl⟩, ?_⟩
    · rw [J0 (wb3.1 hr').1]; rfl
    · rw [v8 (by simp [e])]; exact r4 j r' rfl hr'
  · have hno : ∀ {k : Nm}, (qf H [(id, ⟨(G id).ver, some (.rows tid it ty l (kv + 2) (some p.toNat))⟩), (nid, ⟨(G nid).cv + 1, some (.row it ty (r ++ xs.1))⟩)] k).body.isSome = true → k ≠ .c id p.toNat := fun {k} hk e => by
      subst e; rw [h2i _ rfl] at hk; simp [ym, Qp, BD.ch, Hole.is] at hk
    split at e1 <;> split at e2
    · rename_i a b; rw [a, b]
    · cases e1; cases e2; exact absurd rfl (hno hl2)
    · cases e1; cases e2; exact absurd rfl (hno hl1)
    · cases e1; cases e2; rfl
  · simp only [TS.den]
    refine .nm (if_pos rfl) (fun _ => ?_) (by rw [h2n _ rfl]; exact wb7 _)
    unfold PHeap.set; rw [if_pos rfl]; exact ⟨rfl, rfl⟩
theorem zt3 {id c tid it ver kv : Nat} {t : Ty} {l : List (List t.D)} {r : List t.D} {cs : List PV} (hne : c ≠ id) (hnc : AgN H G c) (hcb : (G c).b = some (.row it t r)) (hv : ∀ j, (H (.c id j)).ver < ver + kv) (hl : cs.length = l.length)
    (hc : ∀ j r, l[j]? = some r → ∃ v, cs[j]? = some (.ps (.c id j) v) ∧ H (.c id j) = ⟨v, some (.row it (wid t) r.length (r.flatMap (je t)))⟩) :
    Tell [id, c] (H.set (.o id) ⟨ver, some (.row tid 1 (l.length + 1) (cs ++ [.ps (.o c) (G c).ver]))⟩) (qf H [(id, ⟨ver, some (.rows tid it t (l ++ [r]) kv none)⟩), (c, ⟨(G c).cv + 1, none⟩)]) fun k => if k = .c id l.length then some (.o c) else some k := by
  have hnd : (([(id, (⟨ver, some (.rows tid it t (l ++ [r]) kv none)⟩ : GB)), (c, ⟨(G c).cv + 1, none⟩)] : List (Nat × GB)).map Prod.fst).Nodup := by simp [Ne.symm hne]
  have h2c : ∀ k : Nm, k.rt = some c → qf H [(id, ⟨ver, some (.rows tid it t (l ++ [r]) kv none)⟩), (c, ⟨(G c).cv + 1, none⟩)] k = ym ⟨(G c).cv + 1, none⟩ k := fun k hk => vn hnd (by simp) hk
  refine zdo (id := id) (D := [c]) (ver := ver) (ver1 := ver) (kv := kv) (tid := tid) (it := it) (t := t) (l := l ++ [r]) (h := none) (cs := cs ++ [.ps (.o c) (G c).ver]) (fun k hk => ?_) (fun k hk => vn hnd (by simp) hk) (fun k hk => .inl ?_) (by simp [Ne.symm hne]) (by unfold PHeap.set; rw [if_pos rfl, wch]; rfl) (wb7 _) (by simp) (fun j => by rw [v8 (by simp)]; exact hv j) (by simp [hl]) (fun j r' _ hr' => .inl ?_) fun k k' x hk hk' hl1 hl2 e1 e2 => ?_
  · rw [v8 fun e => hk ⟨id, by simp, by rw [e]; rfl⟩, if_neg fun e => hk ⟨id, by simp, by rw [e]; rfl⟩]
    exact ⟨yu fun i hi e => hk ⟨i, hi, e⟩, rfl⟩
  · obtain ⟨i, hi, e⟩ := hk
    simp only [wcb] at hi; subst hi
    rw [v8 fun e2 => by rw [e2] at e; cases e; exact hne rfl]
    exact zid hnc h2c e
  · rcases Nat.lt_or_ge j l.length with hj | hj
    · rw [wcc hj] at hr'
      obtain ⟨v, a1, a2⟩ := hc j r' hr'
      refine ⟨.c id j, v, by rw [wcc (by rw [hl]; exact hj)]; exact a1, by rw [if_neg (by simp; omega)], ⟨id, by simp, rfl⟩, ?_⟩
      rw [v8 (by simp)]; exact a2
    · have hj2 := (wb3.1 hr').1
      rw [wch, wcw] at hj2
      have : j = l.length := by omega
      subst this
      simp at hr'; subst hr'
      refine ⟨.o c, (G c).ver, by rw [← hl]; simp, by rw [if_pos rfl], ⟨c, by simp, rfl⟩, ?_⟩
      rw [v8 (by simp [hne]), zr9 hnc hcb]
  · have hno : ∀ {k : Nm}, (qf H [(id, ⟨ver, some (.rows tid it t (l ++ [r]) kv none)⟩), (c, ⟨(G c).cv + 1, none⟩)] k).body.isSome = true → k ≠ .o c := fun {k} hk e => by
      subst e; rw [(zid hnc h2c (k := .o c) rfl).1] at hk; cases hk
    split at e1 <;> split at e2
    · rename_i a b; rw [a, b]
    · cases e1; cases e2; exact absurd rfl (hno hl2)
    · cases e1; cases e2; exact absurd rfl (hno hl1)
    · cases e1; cases e2; rfl
def zuc (G : EG) : TS → Option (Nat × TS)
  | .own xi vx => match Nat.beq (G xi).ver vx with
    | true => match (G xi).b with
      | some (.rowx _ 1 [y]) => some (xi, y)
      | _ => none
    | false => none
  | _ => none
theorem zso {x y : TS} {xi : Nat} (h : zuc G x = some (xi, y)) : x = .own xi (G xi).ver ∧ ∃ tx, (G xi).b = some (.rowx tx 1 [y]) := by
  unfold zuc at h
  split at h <;> try (cases h; done)
  split at h <;> try (cases h; done)
  rename_i hv
  split at h <;> cases h
  rename_i hb
  rw [ju hv]
  exact ⟨rfl, _, hb⟩
def kv0 (G : EG) (id : Nat) : Nat := (G id).cv - (G id).ver
def sRap (se : SE) (o : Oper) (G : EG) (nid : Nat) (s x : TS) : Option SR := match vz o with
  | false => none
  | true => match se with
    | none => none
    | some (e, k, b, _) => match zuc G x with
      | none => none
      | some (xi, y) => match s with
        | .own id ver => match Nat.beq (G id).ver ver && Nat.beq k 1 with
          | true => match (G id).b with
            | some (.rows tid it t l kv none) => match Nat.beq tid e with
              | true => match zhv G it t y with
                | some r => match Nat.beq r.1 id with
                  | false => some ⟨List (List t.D), false, apO b l [r.2], fun _ => .own id (ver + 1), fun l' => [(id, ⟨ver + 1, some (.rows tid it t l' kv none)⟩), (r.1, ⟨(G r.1).cv + 1, none⟩)], [xi], [id, r.1], []⟩
                  | true => none
                | none => none
              | false => none
            | _ => none
          | false => none
        | .c (.slice none 0 0) => match y with
          | .own c vc => match (G c).b with
            | some (.row it t _) => match zhv G it t y with
              | some r => match Nat.beq r.1 nid || !(Nat.beq k 1) with
                | false => some ⟨List (List t.D), false, apO b [] [r.2], fun _ => .own nid (nv G nid), fun l' => [(nid, ⟨nv G nid, some (.rows e it t l' (kv0 G nid) none)⟩), (r.1, ⟨(G r.1).cv + 1, none⟩)], [xi], [nid, r.1], []⟩
                | true => none
              | none => none
            | _ => none
          | _ => none
        | _ => none
theorem z3z {t : Nat} {s x : Operand} {nid : Nat} {q : SR} (ho : o.op = .call { callee := .builtin .append, args := #[s, x], argTypes := #[t, t] }) (h : sRap (q6 P t) o G nid (evE E s) (evE E x) = some q) : SPk P o E G q := by
  have hs' : s ∈ o.op.operands := by rw [ho]; simp [Op.operands, Call.operands]
  have hx' : x ∈ o.op.operands := by rw [ho]; simp [Op.operands, Call.operands]
  unfold sRap at h
  split at h
  · cases h
  rename_i hd
  obtain ⟨d, hd⟩ := qz hd
  split at h
  · cases h
  rename_i e k b z hse
  split at h <;> try (cases h; done)
  rename_i xi y hone
  obtain ⟨hx, tx, hxb⟩ := zso hone
  have src : ∀ {rd F H} {c : Nat}, Agr o E G rd F H → xi ∈ rd → y = .own c (G c).ver → k = 1 → zmj H k (evP F x) = some (1, [.ps (.o c) (G c).ver]) := fun {rd F H c} hag hxi hy hk => by
    rw [hag.ev hx', hx]
    simp only [TS.den]
    unfold zmj
    simp only
    rw [yb (t := tx) (k := 1) (n := 1) (cs := [.ps (.o c) (G c).ver]) (hag.h xi hxi) hxb (by simp [BD.den, jo, hy, TS.den, PV.cells]) rfl]
    simp [hk]
  split at h
  · rename_i id ver hs
    split at h <;> try (cases h; done)
    rename_i hv
    simp only [wb6] at hv
    cases ju hv.1
    have ek := ju hv.2
    split at h <;> try (cases h; done)
    rename_i tid it ty l kv hb
    split at h <;> try (cases h; done)
    rename_i he
    cases ju he
    split at h <;> try (cases h; done)
    rename_i r hr
    obtain ⟨c, r⟩ := r
    obtain ⟨hy, hcb⟩ := Z5 hr
    split at h <;> cases h
    rename_i hne
    have hne : c ≠ id := fun e => by subst e; simp at hne
    refine ⟨fun _ => rfl, fun l' hl' W n F H hfl hdo hag => ?_⟩
    obtain ⟨b1, b2, rfl⟩ := Vb hl'
    have hn := hag.hn id (by simp)
    have hnc := hag.hn c (by simp)
    obtain ⟨r1, r2, r3, r4⟩ := zvb hn hb
    have key : PE P W n o F H fun p' H' => p' = (TS.own id ((G id).ver + 1)).den ∧ H' = H.set (.o id) ⟨(G id).ver + 1, some (.row e 1 (l.length + 1) ((range l.length).map (Hole.cell id (G id).cv none) ++ [.ps (.o c) (G c).ver]))⟩ :=
      PE.append (id := .o id) (ver := (G id).ver) (m := l.length) (m2 := 1) (cs := (range l.length).map (Hole.cell id (G id).cv none)) (cs2 := [.ps (.o c) (G c).ver]) ho hd (hdo d hd) hse (by rw [hag.ev hs', hs]; simp only [TS.den]) (by unfold yh; rw [r1, ek]; simp) (src hag (by simp) hy ek) (by simp [yj, zr9 hnc hcb]) b1 b2 ⟨by simp only [TS.den], by rw [ek]⟩
    refine waf key hfl (za4 hfl.h fun x hx => ?_) hdo (zt3 (tid := e) (ver := (G id).ver + 1) (kv := kv) (l := l) (cs := (range l.length).map (Hole.cell id (G id).cv none)) hne hnc hcb (fun j => by rw [r3, r2]; omega) (by simp) fun j r' hr' => ⟨(G id).cv, by rw [J0 (wb3.1 hr').1]; rfl, r4 j r' rfl hr'⟩) (.keep (Jv _))
    rcases wcr.1 hx with h | h
    · exact zfm _ h
    · simp only [wcb] at h; subst h; exact .ps trivial
  · rename_i hs
    split at h <;> try (cases h; done)
    split at h <;> try (cases h; done)
    rename_i it ty l0 hcb0
    split at h <;> try (cases h; done)
    rename_i r hr
    obtain ⟨c, r⟩ := r
    obtain ⟨hy, hcb⟩ := Z5 hr
    split at h <;> cases h
    rename_i hne
    simp only [Bool.or_eq_false_iff, Bool.not_eq_false'] at hne
    have ek := ju hne.2
    have hne : c ≠ nid := fun e => by subst e; simp at hne
    refine ⟨fun _ => rfl, fun l' hl' W n F H hfl hdo hag => ?_⟩
    obtain ⟨b1, b2, rfl⟩ := Vb hl'
    have hn := hag.hn nid (by simp)
    have hnc := hag.hn c (by simp)
    have hnv : (H (.o nid)).ver + 1 = nv G nid := by rw [hn.1]; rfl
    have key : PE P W n o F H fun p' H' => p' = (TS.own nid (nv G nid)).den ∧ H' = H.set (.o nid) ⟨nv G nid, some (.row e 1 (([] : List (List ty.D)).length + 1) ([] ++ [.ps (.o c) (G c).ver]))⟩ :=
      waq (id := .o nid) (m2 := 1) (cs2 := [.ps (.o c) (G c).ver]) ho hd (hdo d hd) hse (by rw [hag.ev hs', hs]; simp only [TS.den]; rfl) (src hag (by simp) hy ek) (by simp [yj, zr9 hnc hcb]) b1 b2 ⟨by rw [hnv]; simp only [TS.den], by rw [hnv, ek]; rfl⟩
    refine waf key hfl (za4 hfl.h fun x hx => ?_) hdo (zt3 (tid := e) (ver := nv G nid) (kv := kv0 G nid) (l := []) (cs := []) hne hnc hcb (fun j => ?_) rfl fun j r' hr' => by simp at hr') (.keep (Jv _))
    · simp only [wc2, wcb] at hx; subst hx; exact .ps trivial
    · rw [hn.2]
      have := (G nid).ver_le
      simp only [Qp, nv, kv0]; omega
  · cases h
def nilS (id : Nat) : Nm → Option Nm
  | .c i j => if i = id then none else some (.c i j)
  | k => some k
theorem zoh {id : Nat} {k x : Nm} (h : nilS id k = some x) : x = k := by
  cases k with
  | c i j => simp only [nilS] at h; split at h <;> cases h; rfl
  | _ => cases h; rfl
theorem zr1 {id tid it ver kv m : Nat} {t : Ty} (hv : ∀ j, (H (.c id j)).ver < ver + kv) : Tell [id] (H.set (.o id) ⟨ver, some (.row tid 1 m (replicate m (.u (.slice none 0 0))))⟩) (qf H [(id, ⟨ver, some (.rows tid it t (replicate m []) kv none)⟩)]) (nilS id) := by
  refine zdo (id := id) (D := []) (ver := ver) (ver1 := ver) (kv := kv) (tid := tid) (it := it) (t := t) (l := replicate m []) (h := none) (cs := replicate m (.u (.slice none 0 0))) (fun k hk => ?_) (fun k hk => vn (by simp) (by simp) hk) (fun k ⟨i, hi, _⟩ => by cases hi) (by simp) (by unfold PHeap.set; rw [if_pos rfl, wb4]) (wb7 _) rfl (fun j => by rw [v8 (by simp)]; exact hv j) (by simp) (fun j r' _ hr' => .inr ?_) fun k k' x hk hk' hl1 hl2 e1 e2 => by rw [← zoh e1, ← zoh e2]
  · rw [v8 fun e => hk ⟨id, by simp, by rw [e]; rfl⟩]
    refine ⟨yu fun i hi e => hk ⟨i, hi, e⟩, ?_⟩
    cases k with
    | c i j => simp only [nilS]; rw [if_neg]; intro e; exact hk ⟨id, by simp, by rw [e]; rfl⟩
    | _ => rfl
  · have hj : j < m := by have := (wb3.1 hr').1; simpa using this
    rw [List.getElem?_replicate, if_pos hj] at hr'
    cases hr'
    exact ⟨rfl, by rw [List.getElem?_replicate, if_pos hj], by simp [nilS]⟩
def sRmk (fl : Option (TypeId × Ty)) (se : SE) (o : Oper) (G : EG) (nid : Nat) (same : Bool) (x : TS) : Option SR := match vz o && same with
  | false => none
  | true => match fl with
    | none => none
    | some (it, t) => match se with
      | some (e, 1, b, z) => match zxx z with
        | true => match Zo x with
          | some a => some ⟨Nat, false, mkO b a, fun _ => .own nid (nv G nid), fun m => [(nid, ⟨nv G nid, some (.rows e it t (replicate m []) (kv0 G nid) none)⟩)], [], [nid], []⟩
          | none => none
        | false => none
      | _ => none
theorem z2j {fl : Option (TypeId × Ty)} {t : Nat} {x y : Operand} {nid : Nat} {q : SR} (ho : o.op = .makeSlice t x y) (h : sRmk fl (q6 P t) o G nid (zg4 x y) (evE E x) = some q) : SPk P o E G q := by
  have hx' : x ∈ o.op.operands := by rw [ho]; simp [Op.operands]
  unfold sRmk at h
  split at h
  · cases h
  rename_i hds
  simp only [wb6] at hds
  obtain ⟨d, hd⟩ := qz hds.1
  split at h <;> try (cases h; done)
  split at h <;> try (cases h; done)
  rename_i e b z hse
  split at h <;> try (cases h; done)
  rename_i hz
  cases zkp hz
  split at h <;> cases h
  rename_i a ha
  obtain ⟨kd, hk⟩ := Jm ha
  refine ⟨fun _ => rfl, fun (m : Nat) (hm : mkO b a = some m) W n F H hfl hdo hag => ?_⟩
  obtain ⟨rfl, m1, m2⟩ := ztx hm
  have hev : evP F x = .u (.int kd m) := by rw [hag.ev hx', hk]
  obtain ⟨k1, z1, e1, k2, e2⟩ := zoo (F := F) hds.2 ⟨kd, m, hev⟩
  rw [hev] at e1
  cases e1
  have hn := hag.hn nid (by simp)
  have hnv : (H (.o nid)).ver + 1 = nv G nid := by rw [hn.1]; rfl
  have key : PE P W n o F H fun p' H' => p' = (TS.own nid (nv G nid)).den ∧ H' = H.set (.o nid) ⟨nv G nid, some (.row e 1 m (replicate m (.u (.slice none 0 0))))⟩ :=
    PE.makeSlice (id := .o nid) (m := m) ho hd (hdo d hd) hse rfl hev e2 m1 m2 ⟨by rw [hnv]; simp only [TS.den], by rw [hnv]⟩
  refine waf key hfl (za4 hfl.h fun x hx => ?_) hdo (zr1 (tid := e) (ver := nv G nid) (kv := kv0 G nid) (m := m) fun j => ?_) (.keep (Jv _))
  · rw [(List.mem_replicate.1 hx).2]; exact .noP (.u _)
  · rw [hn.2]
    have := (G nid).ver_le
    simp only [Qp, nv, kv0]; omega
def sRlt (fl : Option (TypeId × Ty)) (se : SE) (o : Oper) (G : EG) (nid len : Nat) (ps : List (Nat × Operand)) : Option SR := match vz o with
  | false => none
  | true => match fl with
    | none => none
    | some (it, t) => match se with
      | some (e, 1, b, z) => match z.cells.toList.all Value.oneCell' with
        | true => match len, ps with
          | 0, [] => some ⟨Unit, true, some (), fun _ => .own nid (nv G nid), fun _ => [(nid, ⟨nv G nid, some (.rows e it t [] (kv0 G nid) none)⟩)], [], [nid], []⟩
          | _, _ => none
        | false => none
      | _ => none
theorem z3r {fl : Option (TypeId × Ty)} {t len nid : Nat} {parts : Array (Nat × Operand)} {q : SR} (ho : o.op = .buildSlice t len parts) (h : sRlt fl (q6 P t) o G nid len parts.toList = some q) : SPk P o E G q := by
  unfold sRlt at h
  split at h
  · cases h
  rename_i hds
  obtain ⟨d, hd⟩ := qz hds
  split at h <;> try (cases h; done)
  split at h <;> try (cases h; done)
  rename_i e b z hse
  split at h <;> try (cases h; done)
  rename_i hz
  split at h <;> try (cases h; done)
  rename_i hps
  cases h
  refine ⟨fun _ => rfl, fun _ _ W n F H hfl hdo hag => ?_⟩
  have hn := hag.hn nid (by simp)
  have hnv : (H (.o nid)).ver + 1 = nv G nid := by rw [hn.1]; rfl
  have key : PE P W n o F H fun p' H' => p' = (TS.own nid (nv G nid)).den ∧ H' = H.set (.o nid) ⟨nv G nid, some (.row e 1 0 (replicate 0 (.u (.slice none 0 0))))⟩ :=
    PE.buildSlice (id := .o nid) ho hd (hdo d hd) hse hz (by simp) (by simp [maxLen]) (by rw [hps]; rfl) ⟨by rw [hnv]; simp only [TS.den], by rw [hnv, hps]; rfl⟩
  refine waf key hfl (za4 hfl.h fun x hx => by cases hx) hdo (zr1 (tid := e) (ver := nv G nid) (kv := kv0 G nid) (m := 0) fun j => ?_) (.keep (Jv _))
  rw [hn.2]
  have := (G nid).ver_le
  simp only [Qp, nv, kv0]; omega
end
def zwg (P : Program) (fl : Option (TypeId × Ty)) (nid : Nat) (o : Oper) (E : EF) (G : EG) : Option SK := match o.op with
  | .store t x y => match asz P t with
    | some (ag, k) => match sKel ag k G (evE E x) (evE E y) with
      | some q => some q.kP
      | none => match sRst ag k G (evE E x) (evE E y) with
        | some q => some q.kP
        | none => none
    | none => none
  | .makeSlice t x y => match sRmk fl (q6 P t) o G nid (zg4 x y) (evE E x) with
    | some q => some q.kP
    | none => none
  | .buildSlice t len parts => match sRlt fl (q6 P t) o G nid len parts.toList with
    | some q => some q.kP
    | none => none
  | .call ⟨.builtin .append, ⟨[s, x]⟩, ⟨[t, t']⟩⟩ => match Nat.beq t t' with
    | true => match sKap (q6 P t) o G nid (evE E s) (evE E x) with
      | some q => some q.kP
      | none => match sRap (q6 P t) o G nid (evE E s) (evE E x) with
        | some q => some q.kP
        | none => none
    | false => none
  | _ => none
theorem zsj {P : Program} {fl : Option (TypeId × Ty)} {nid : Nat} {o : Oper} {E : EF} {G : EG} {r : SK} (h : zwg P fl nid o E G = some r) : zer P o E G r := by
  unfold zwg at h
  split at h
  · rename_i t x y ho
    split at h <;> try (cases h; done)
    rename_i ag k ht
    split at h
    · rename_i q hq
      cases h; exact (z2o ho ht hq).k
    · split at h <;> cases h
      rename_i q hq
      exact (z3l ho ht hq).k
  · rename_i t x y ho
    split at h <;> cases h
    rename_i q hq
    exact (z2j ho hq).k
  · rename_i t len parts ho
    split at h <;> cases h
    rename_i q hq
    exact (z3r ho hq).k
  · rename_i s x t t' ho
    split at h <;> try (cases h; done)
    rename_i ht
    cases ju ht
    split at h
    · rename_i q hq
      cases h; exact (z16 ho hq).k
    · split at h <;> cases h
      rename_i q hq
      exact (z3z ho hq).k
  · cases h
end
end Go.Proofs.YtiafpechgjopfaaGreatDoor.T
