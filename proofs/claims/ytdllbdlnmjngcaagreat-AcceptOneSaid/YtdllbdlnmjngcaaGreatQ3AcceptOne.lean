/-
  Texts of this proof, put together: Tj, Tk, Tl, Tm, Tn, To, Tp, Tq, Tr, Ot, Pa, Pm, Tu, Tv, Tw, Ts, Tt, Tz, Tx, Ua, Ub, Uc, Ud, Ue, Uf, Ug.
-/

import Derived.Test.YtdllbdlnmjngcaaGreatQ2AcceptOne

namespace Go.Proofs.YtdllbdlnmjngcaaGreat.T
open Go Go.RowKit L
set_option linter.unusedVariables false
set_option linter.unusedSimpArgs false
def SR.now (s:TS) (rd:List Nat):SR:=⟨Unit,true,some (),fun _=>s,fun _=>[],rd,[]⟩
def SR.dat (α:Type) (o:Option α) (s:α→TS) (rd:List Nat):SR:=⟨α,false,o,s,fun _=>[],rd,[]⟩
def SR.vx (b:Bool) (t:Ty) (x:t.D):SR:=match b with
 | true => .dat t.D (some x) (fun y => .v ⟨t,y⟩) []
 | false => .now (.v ⟨t,x⟩) []
def SR.vo (t:Ty) (o:Option t.D):SR := .dat t.D o (fun y => .v ⟨t,y⟩) []
structure Agr (o:Oper) (E:EF) (G:EG) (rd:List Nat) (F:PFrame) (H:PHeap):Prop where
 f:∀ t,Operand.tmp t∈o.op.operands→F t=(E t).den
 h:∀ id,id∈rd→H (2*id)=j8 (G id)
section
variable {P : Program} {o : Oper} {E : EF} {G : EG} {rd : List Nat} {F : PFrame} {H : PHeap} {W : Env}
theorem Agr.ev (h:Agr o E G rd F H) {x:Operand} (hx:x∈o.op.operands):evP F x=(evE E x).den:=by
 cases x with
 | tmp t=>simp only[evP,evE];exact h.f t hx
 | const v=>simp only[evP,evE,TS.den]
 | global g=>simp only[evP,evE,TS.den]
 | func f=>simp only[evP,evE,TS.den,vm]
theorem SOk.now {s:TS} (h:∀ W F H,Agr o E G rd F H→PQ P W o F H s.den):SOk P o E G (.now s rd):=
 ⟨fun _=>rfl,fun x hx W n F H hfl hd hF hH=>PE.quiet hd (h W F H ⟨hF,fun id hid=>hH id (.inl hid)⟩) ⟨rfl,rfl⟩⟩
theorem SOk.dat {α:Type} {op:Option α} {s:α→TS} (h:∀ x,op=some x→∀ W F H,Agr o E G rd F H→PQ P W o F H (s x).den):SOk P o E G (.dat α op s rd):=
 ⟨fun _=>rfl,fun x hx W n F H hfl hd hF hH=>PE.quiet hd (h x hx W F H ⟨hF,fun id hid=>hH id (.inl hid)⟩) ⟨rfl,rfl⟩⟩
theorem SOk.vx {b:Bool} {t:Ty} {x:t.D} (h:∀ W F H,Agr o E G [] F H→PQ P W o F H (enc t x)):SOk P o E G (.vx b t x):=by
 cases b with
 | true=>exact SOk.dat fun y hy W F H ha=>by cases hy;simp only[TS.den];exact h W F H ha
 | false=>exact SOk.now fun W F H ha=>by simp only[TS.den];exact h W F H ha
theorem SOk.vo {t:Ty} {op:Option t.D} (h:∀ x,op=some x→∀ W F H,Agr o E G [] F H→PQ P W o F H (enc t x)):SOk P o E G (.vo t op):=
 SOk.dat fun y hy W F H ha=>by simp only[TS.den];exact h y hy W F H ha
theorem PQ.ref {p q:PV} (h:PQ P W o F H p) (hr:Ref p q):PQ P W o F H q:=fun V a w hh hs=>
 Oper.wp_mono (fun a' w' ⟨v,h1,h2,h3⟩=>⟨v,h1,hr _ _ _ _ _ h2,h3⟩) (h V a w hh hs)
def ofCx:(t:Ty)→Value→Option t.D
 | .int k, .int k' z=>match ikB k k' with
  | true=>some z
  | false=>none
 | .bool, .bool b=>some b
 | .str, .string s=>some s.data.toList
 | _,_=>none
theorem jbl {t:Ty} {v:Value} {x:t.D} (h:ofCx t v=some x):ofV v=enc t x:=by
 unfold ofCx at h
 split at h
 ·split at h<;>cases h
  rename_i e
  rw[ztx e];rfl
 ·cases h;rfl
 ·cases h;rfl
 ·cases h
def Qm (t:Ty):TS→Option t.D
 | .v d=>d.as t
 | .c v=>ofCx t v
 | _=>none
theorem yd {t:Ty} {s:TS} {x:t.D} (h:Qm t s=some x):s.den=enc t x:=by
 unfold Qm at h
 split at h
 ·have:=Dyn.as_eq h
  subst this
  simp only[TS.den]
 ·simp only[TS.den];exact jbl h
 ·cases h
def zbc:TS→Option Int
 | .v ⟨.int _,z⟩=>some z
 | .c (.int _ z)=>some z
 | _=>none
theorem Vj {s:TS} {z:Int} (h:zbc s=some z):∃ k,s.den = .u (.int k z):=by
 unfold zbc at h
 split at h
 ·cases h;exact⟨_,by simp only[TS.den];rfl⟩
 ·cases h;exact⟨_,by simp only[TS.den];rfl⟩
 ·cases h
def qp {α:Type} (o:Option α) (f:α→Option SR):Option SR:=match o with
 | some a=>f a
 | none=>none
theorem jm {α:Type} {o:Option α} {f:α→Option SR} {q:SR} (h:qp o f=some q):∃ a,o=some a∧f a=some q:=by
 cases o with
 | none=>cases h
 | some a=>exact⟨a,rfl,h⟩
def intX (k:IntKind) (op:BinOp) (a b:Int):Option Int:=match op with
 | .add=>some (k.wrap (a+b))
 | .sub=>some (k.wrap (a-b))
 | .mul=>some (k.wrap (a*b))
 | .and=>some (z6v k a b)
 | .or=>some (orI k a b)
 | .xor=>some (xorI k a b)
 | .andNot=>some (zt5 k a b)
 | _=>none
def cmpX (op:BinOp) (a b:Int):Option Bool:=match op with
 | .eql=>some (decide (a=b))
 | .neq=>some (decide (¬ a=b))
 | .lss=>some (decide (a<b))
 | .leq=>some (decide (a≤b))
 | .gtr=>some (decide (b<a))
 | .geq=>some (decide (b≤a))
 | _=>none
def z96 (k:IntKind) (op:BinOp) (a b:Int):Option (Option Int):=match op with
 | .quo=>some (zuj k a b)
 | .rem=>some (zyd k a b)
 | .shl=>some (z0b k a b)
 | .shr=>some (zku k a b)
 | _=>none
theorem z98 {k:IntKind} {op:BinOp} {a b r:Int} (h:intX k op a b=some r) (t:Nat) (x y:Operand):vg P op t x y (.u (.int k a)) (.u (.int k b))=some (.u (.int k r)):=by
 unfold intX at h
 split at h<;>cases h
 ·exact zje
 ·exact z48
 ·exact z41
 ·exact b_and _ _
 ·exact b_or _ _
 ·exact b_xor _ _
 ·exact z7s _ _
theorem z91 {k:IntKind} {op:BinOp} {a b:Int} {r:Bool} (h:cmpX op a b=some r) (t:Nat) (x y:Operand):vg P op t x y (.u (.int k a)) (.u (.int k b))=some (.u (.bool r)):=by
 unfold cmpX at h
 split at h<;>cases h
 ·exact z7g
 ·exact z5s
 ·exact zbq
 ·exact z5z
 ·exact zyb
 ·exact zm2
theorem z1u {k k':IntKind} {op:BinOp} {a b r:Int} {q:Option Int} (h:z96 k op a b=some q) (hq:q=some r) (hk:op = .shl∨op = .shr∨k'=k) (t:Nat) (x y:Operand):vg P op t x y (.u (.int k a)) (.u (.int k' b))=some (.u (.int k r)):=by
 unfold z96 at h
 split at h<;>cases h
 ·rcases hk with h | h | h<;>first | cases h | skip
  exact b_quo hq
 ·rcases hk with h | h | h<;>first | cases h | skip
  exact b_rem hq
 ·exact b_shl hq
 ·exact b_shr hq
def isSh (op:BinOp):Bool:=match op with
 | .shl=>true
 | .shr=>true
 | _=>false
def foldOp (op:BinOp):Bool:=match op with
 | .and=>false
 | .or=>false
 | .xor=>false
 | .andNot=>false
 | _=>true
def isC (x y:TS) (op:BinOp):Bool:=match x with
 | .c _=>match y with
  | .c _=>foldOp op
  | _=>false
 | _=>false
def vxI (c bd:Bool) (k:IntKind) (r:Int):SR:=match c with
 | true => .now (.c (.int k r)) []
 | false => .vx bd (.int k) r
def vxB (c bd:Bool) (r:Bool):SR:=match c with
 | true => .now (.c (.bool r)) []
 | false => .vx bd .bool r
theorem SOk.vxI {c bd:Bool} {k:IntKind} {r:Int} (h:∀ W F H,Agr o E G [] F H→PQ P W o F H (.u (.int k r))):SOk P o E G (vxI c bd k r):=by
 cases c with
 | true=>exact SOk.now fun W F H ha=>by simp only[TS.den];exact h W F H ha
 | false=>exact SOk.vx fun W F H ha=>h W F H ha
theorem SOk.vxB {c bd:Bool} {r:Bool} (h:∀ W F H,Agr o E G [] F H→PQ P W o F H (.u (.bool r))):SOk P o E G (vxB c bd r):=by
 cases c with
 | true=>exact SOk.now fun W F H ha=>by simp only[TS.den];exact h W F H ha
 | false=>exact SOk.vx fun W F H ha=>h W F H ha
def sInt (bd:Bool) (k:IntKind) (op:BinOp) (x y:TS):Option SR:=match isSh op with
 | true=>qp (Qm (.int k) x) fun a=>qp (zbc y) fun b=>match z96 k op a b with
  | some q=>some (.vo (.int k) q)
  | none=>none
 | false=>qp (Qm (.int k) x) fun a=>qp (Qm (.int k) y) fun b=>match intX k op a b with
  | some r=>some (vxI (isC x y op) bd k r)
  | none=>match cmpX op a b with
   | some r=>some (vxB (isC x y op) bd r)
   | none=>match z96 k op a b with
    | some q=>some (.vo (.int k) q)
    | none=>none
theorem z90 {bd:Bool} {k:IntKind} {op:BinOp} {t t':Nat} {x y:Operand} {q:SR} (ho:o.op = .binOp op t x y t') (hy:zd8 P t y=true) (h:sInt bd k op (evE E x) (evE E y)=some q):SOk P o E G q:=by
 have hx':x∈o.op.operands:=by rw[ho];simp[Op.operands]
 have hy':y∈o.op.operands:=by rw[ho];simp[Op.operands]
 have step:∀ {W F H} {p1 p2 r:PV},(evE E x).den=p1→(evE E y).den=p2→vg P op t x y p1 p2=some r→Agr o E G [] F H→PQ P W o F H r:=fun {W F H p1 p2 r} h1 h2 h3 ha=>by
  refine jc ?_
  unfold jp;rw[ho]
  simp only
  rw[zcz hy,ha.ev hx',ha.ev hy',h1,h2,h3]
 unfold sInt at h
 split at h
 ·rename_i hsh
  obtain⟨a,ha,h⟩:=jm h
  obtain⟨b,hb,h⟩:=jm h
  split at h<;>try (cases h;done)
  rename_i qo hq
  cases h
  obtain⟨k',hk'⟩:=Vj hb
  refine SOk.vo fun r hr W F H hag=>step (yd ha) hk' (z1u hq hr ?_ t x y) hag
  cases op<;>first | exact .inl rfl | exact .inr (.inl rfl) | (simp[isSh] at hsh)
 ·obtain⟨a,ha,h⟩:=jm h
  obtain⟨b,hb,h⟩:=jm h
  split at h
  ·rename_i r hr
   cases h
   exact SOk.vxI fun W F H hag=>step (yd ha) (yd hb) (z98 hr t x y) hag
  ·split at h
   ·rename_i r hr
    cases h
    exact SOk.vxB fun W F H hag=>step (yd ha) (yd hb) (z91 hr t x y) hag
   ·split at h<;>try (cases h;done)
    rename_i qo hq
    cases h
    exact SOk.vo fun r hr W F H hag=>step (yd ha) (yd hb) (z1u hq hr (.inr (.inr rfl)) t x y) hag
def z6g (bd:Bool) (op:BinOp) (x y:TS):Option SR:=qp (Qm .bool x) fun a=>qp (Qm .bool y) fun b=>match op with
 | .eql=>some (.vx bd .bool (a == b))
 | .neq=>some (.vx bd .bool (a != b))
 | _=>none
theorem z65 {bd:Bool} {op:BinOp} {t t':Nat} {x y:Operand} {q:SR} (ht:P.underlying t=some .bool) (ho:o.op = .binOp op t x y t') (hy:zd8 P t y=true) (h:z6g bd op (evE E x) (evE E y)=some q):SOk P o E G q:=by
 have hx':x∈o.op.operands:=by rw[ho];simp[Op.operands]
 have hy':y∈o.op.operands:=by rw[ho];simp[Op.operands]
 unfold z6g at h
 obtain⟨a,ha,h⟩:=jm h
 obtain⟨b,hb,h⟩:=jm h
 have step:∀ {W F H} {r:Bool},vg P op t x y (.u (.bool a)) (.u (.bool b))=some (.u (.bool r))→Agr o E G [] F H→PQ P W o F H (.u (.bool r)):=fun {W F H r} h3 hag=>by
  refine jc ?_
  unfold jp;rw[ho]
  simp only
  rw[zcz hy,hag.ev hx',hag.ev hy',yd ha,yd hb]
  exact h3
 split at h<;>cases h
 ·exact SOk.vx fun W F H hag=>step (b_eqB a b ht) hag
 ·exact SOk.vx fun W F H hag=>step (b_neB a b ht) hag
def z7r (a b:List UInt8):Option (List UInt8):=match decide (((a.length+b.length:Nat):Int)≤9223372036854775807) with
 | true=>some (a++b)
 | false=>none
def sStr (bd:Bool) (op:BinOp) (x y:TS):Option SR:=qp (Qm .str x) fun a=>qp (Qm .str y) fun b=>match op with
 | .eql=>some (.vx bd .bool (a == b))
 | .neq=>some (.vx bd .bool (!(a == b)))
 | .lss=>some (.vx bd .bool (Op.bytesLess a b))
 | .add=>some (.vo .str (z7r a b))
 | _=>none
theorem Z2 (a:List UInt8):(ByteArray.mk ⟨a⟩).toList=a:=by
 rw[ByteArray.toList_eq]
theorem jao {bd:Bool} {op:BinOp} {t t':Nat} {x y:Operand} {q:SR} (ho:o.op = .binOp op t x y t') (hy:zd8 P t y=true) (h:sStr bd op (evE E x) (evE E y)=some q):SOk P o E G q:=by
 have hx':x∈o.op.operands:=by rw[ho];simp[Op.operands]
 have hy':y∈o.op.operands:=by rw[ho];simp[Op.operands]
 unfold sStr at h
 obtain⟨a,ha,h⟩:=jm h
 obtain⟨b,hb,h⟩:=jm h
 have step:∀ {W F H} {r:PV},vg P op t x y (.u (.string ⟨⟨a⟩⟩)) (.u (.string ⟨⟨b⟩⟩))=some r→Agr o E G [] F H→PQ P W o F H r:=fun {W F H r} h3 hag=>by
  refine jc ?_
  unfold jp;rw[ho]
  simp only
  rw[zcz hy,hag.ev hx',hag.ev hy',yd ha,yd hb]
  exact h3
 split at h<;>cases h
 ·refine SOk.vx fun W F H hag=>?_
  have:=z4i (P:=P) (t:=t) (x:=x) (y:=y) (⟨⟨a⟩⟩:ByteArray) ⟨⟨b⟩⟩
  rw[Z2,Z2] at this
  exact step this hag
 ·refine SOk.vx fun W F H hag=>?_
  have:=z35 (P:=P) (t:=t) (x:=x) (y:=y) (⟨⟨a⟩⟩:ByteArray) ⟨⟨b⟩⟩
  rw[Z2,Z2] at this
  exact step this hag
 ·refine SOk.vx fun W F H hag=>?_
  have:=b_lssS (P:=P) (t:=t) (x:=x) (y:=y) (⟨⟨a⟩⟩:ByteArray) ⟨⟨b⟩⟩
  unfold bltS at this
  rw[Z2,Z2] at this
  exact step this hag
 ·refine SOk.vo fun r hr W F H hag=>?_
  unfold z7r at hr
  split at hr<;>cases hr
  rename_i hle
  have hle:=of_decide_eq_true hle
  have:z93 (⟨⟨a⟩⟩:ByteArray) ⟨⟨b⟩⟩=some (⟨⟨a⟩⟩ ++ ⟨⟨b⟩⟩):=by
   unfold z93
   rw[if_pos]
   exact hle
  have h2:=b_addS (P:=P) (t:=t) (x:=x) (y:=y) this
  have e:(⟨⟨a⟩⟩ ++ ⟨⟨b⟩⟩:ByteArray) = ⟨⟨a++b⟩⟩:=by
   apply ByteArray.ext
   rw[ByteArray.data_append];simp
  rw[e] at h2
  exact step h2 hag
theorem zy3 {x:Operand} (ho:o.op = .move x∨o.op = .assign x):SOk P o E G (.now (evE E x) []):=SOk.now fun W F H hag=>by
 refine jc ?_
 unfold jp
 rcases ho with ho | ho
 ·rw[ho];simp only
  rw[hag.ev (by rw[ho];simp[Op.operands])]
 ·rw[ho];simp only
  rw[hag.ev (by rw[ho];simp[Op.operands])]
def z7x:TS→Option Ty
 | .v d=>some d.t
 | .c (.bool _)=>some .bool
 | .c (.int k _)=>some (.int k)
 | .c (.string _)=>some .str
 | _=>none
def z58 (bd:Bool) (c x y:TS):Option SR:=match c with
 | .c (.bool true)=>some (.now x [])
 | .c (.bool false)=>some (.now y [])
 | .v ⟨.bool,b⟩=>match z7x x with
  | none=>none
  | some t=>match z7x y with
   | none=>none
   | some t'=>match t with
    | .bool=>qp (Qm .bool x) fun p=>qp (Qm .bool y) fun q=>some (.vx bd .bool (cond b p q))
    | t=>qp (Qm t x) fun p=>qp (Qm t y) fun q=>some (.vx bd t (cond b p q))
 | _=>none
theorem z7f {bd:Bool} {c x y:Operand} {q:SR} (ho:o.op = .pick c x y) (h:z58 bd (evE E c) (evE E x) (evE E y)=some q):SOk P o E G q:=by
 have hc':c∈o.op.operands:=by rw[ho];simp[Op.operands]
 have hx':x∈o.op.operands:=by rw[ho];simp[Op.operands]
 have hy':y∈o.op.operands:=by rw[ho];simp[Op.operands]
 have step:∀ {W F H} {b:Bool} {p1 p2:PV},(evE E c).den = .u (.bool b)→(evE E x).den=p1→(evE E y).den=p2→Agr o E G [] F H→PQ P W o F H (if b then p1 else p2):=fun {W F H b p1 p2} h1 h2 h3 hag=>by
  refine jc ?_
  unfold jp;rw[ho]
  simp only
  rw[hag.ev hc',hag.ev hx',hag.ev hy',h1,h2,h3]
 have typed:∀ {t:Ty} {b:Bool} {q:SR},(evE E c).den = .u (.bool b)→(qp (Qm t (evE E x)) fun p=>qp (Qm t (evE E y)) fun q=>some (.vx bd t (cond b p q)))=some q→SOk P o E G q:=fun {t b q} h1 h=>by
  obtain⟨p1,hp,h⟩:=jm h
  obtain⟨p2,hq,h⟩:=jm h
  cases h
  refine SOk.vx fun W F H hag=>?_
  have:=step (W:=W) h1 (yd hp) (yd hq) hag
  cases b<;>exact this
 unfold z58 at h
 split at h
 ·rename_i hc
  cases h
  exact SOk.now fun W F H hag=>by
   have:=step (W:=W) (b:=true) (by rw[hc];simp only[TS.den];rfl) rfl rfl hag
   exact this
 ·rename_i hc
  cases h
  exact SOk.now fun W F H hag=>by
   have:=step (W:=W) (b:=false) (by rw[hc];simp only[TS.den];rfl) rfl rfl hag
   exact this
 ·rename_i b hc
  have h1:(evE E c).den = .u (.bool b):=by rw[hc];simp only[TS.den];rfl
  split at h<;>try (cases h;done)
  split at h<;>try (cases h;done)
  split at h
  ·exact typed h1 h
  ·exact typed h1 h
 ·cases h
def sNot (bd:Bool) (x:TS):Option SR:=qp (Qm .bool x) fun b=>some (.vx bd .bool (!b))
theorem jac {bd:Bool} {t:TypeId} {x:Operand} {q:SR} (ho:o.op = .unOp .not t x) (h:sNot bd (evE E x)=some q):SOk P o E G q:=by
 have hx':x∈o.op.operands:=by rw[ho];simp[Op.operands]
 obtain⟨b,hb,h⟩:=jm h
 cases h
 refine SOk.vx fun W F H hag=>jc ?_
 unfold jp;rw[ho]
 simp only
 rw[hag.ev hx',yd hb]
 exact z2i b
def jcm (bd:Bool) (k:IntKind) (x:TS):Option SR:=qp (zbc x) fun z=>some (.vx bd (.int k) (k.wrap z))
theorem z6y {bd:Bool} {t t':TypeId} {x:Operand} {k:IntKind} {q:SR} (ho:o.op = .convert t t' x) (h1:(zh5 P t).isSome=true) (h2:zh5 P t'=some k) (h:jcm bd k (evE E x)=some q):SOk P o E G q:=by
 have hx':x∈o.op.operands:=by rw[ho];simp[Op.operands]
 obtain⟨z,hz,h⟩:=jm h
 cases h
 obtain⟨k',hk'⟩:=Vj hz
 refine SOk.vx fun W F H hag=>jc ?_
 unfold jp;rw[ho]
 simp only
 rw[hag.ev hx',hk']
 exact z3x h1 h2
end
end Go.Proofs.YtdllbdlnmjngcaaGreat.T

namespace Go.Proofs.YtdllbdlnmjngcaaGreat.T
open Go Go.RowKit L
set_option linter.unusedVariables false
set_option linter.unusedSimpArgs false
def SR.vr (b:Bool) (t:Ty) (x:t.D) (rd:List Nat):SR:=match b with
 | true => .dat t.D (some x) (fun y => .v ⟨t,y⟩) rd
 | false => .now (.v ⟨t,x⟩) rd
section
variable {P : Program} {o : Oper} {E : EF} {G : EG} {rd : List Nat} {F : PFrame} {H : PHeap} {W : Env}
theorem SOk.vr {b:Bool} {t:Ty} {x:t.D} (h:∀ W F H,Agr o E G rd F H→PQ P W o F H (enc t x)):SOk P o E G (.vr b t x rd):=by
 cases b with
 | true=>exact SOk.dat fun y hy W F H ha=>by cases hy;simp only[TS.den];exact h W F H ha
 | false=>exact SOk.now fun W F H ha=>by simp only[TS.den];exact h W F H ha
theorem Ref.rpL' {cs bs:List PV}:Ref (.rp (cs++bs)) (.rp cs):=fun Z H V w v hv=>by
 cases hv with
 | rp _ b o' g hz hb h1 h2=>
  refine .rp _ b o' g hz hb (fun i p hi=>h1 i p ?_) fun i p hi=>h2 i p ?_
  ·rw[List.getElem?_append_left (List.getElem?_eq_some_iff.1 hi).1];exact hi
  ·rw[List.getElem?_append_left (List.getElem?_eq_some_iff.1 hi).1];exact hi
def zhw:(r:Ty)→r.D→Nat→Option Dyn
 | .cons a _,x,0=>some ⟨a,x.1⟩
 | .cons _ r,x,i+1=>zhw r x.2 i
 | _,_,_=>none
theorem z2j:∀(r:Ty) (x:r.D) (i:Nat) (d:Dyn),zhw r x i=some d→(qx r (encC r x))[i]? = some (enc d.t d.x)
 | .cons a r,x,0,d,h=>by
  simp only[zhw] at h
  cases h
  simp only[qx,encC,List.getElem?_cons_zero]
  rw[List.take_left' (jr a x.1)];rfl
 | .cons a r,x,i+1,d,h=>by
  simp only[zhw] at h
  simp only[qx,encC,List.getElem?_cons_succ]
  rw[List.drop_left' (jr a x.1)]
  exact z2j r x.2 i d h
 | .int _,_,_,_,h=>by simp[zhw] at h
 | .bool,_,_,_,h=>by simp[zhw] at h
 | .str,_,_,_,h=>by simp[zhw] at h
 | .sl _,_,_,_,h=>by simp[zhw] at h
 | .ref _,_,_,_,h=>by simp[zhw] at h
 | .arr _ _,_,_,_,h=>by simp[zhw] at h
 | .nil,_,_,_,h=>by simp[zhw] at h
 | .st _,_,_,_,h=>by simp[zhw] at h
 | .tup _,_,_,_,h=>by simp[zhw] at h
def sExt (x:TS) (i:Nat):Option SR:=match x with
 | .tup xs=>match xs[i]? with
  | some y=>some (.now y [])
  | none=>none
 | .v ⟨.tup r,p⟩=>match zhw r p i with
  | some d=>some (.now (.v d) [])
  | none=>none
 | _=>none
theorem jab {x:Operand} {i:Nat} {q:SR} (ho:o.op = .extract x i) (h:sExt (evE E x) i=some q):SOk P o E G q:=by
 have hx':x∈o.op.operands:=by rw[ho];simp[Op.operands]
 have step:∀ {W F H} {cs:List PV} {r:PV},(evE E x).den = .tup cs→cs[i]? = some r→Agr o E G [] F H→PQ P W o F H r:=fun {W F H cs r} h1 h2 hag=>by
  refine jc ?_
  unfold jp;rw[ho]
  simp only
  rw[hag.ev hx',h1];exact h2
 unfold sExt at h
 split at h
 ·rename_i xs hxs
  split at h<;>try (cases h;done)
  rename_i y hy
  cases h
  refine SOk.now fun W F H hag=>step (cs:=vm xs) (by rw[hxs];simp only[TS.den]) ?_ hag
  rw[zaf,List.getElem?_map,hy];rfl
 ·rename_i r p hxs
  split at h<;>try (cases h;done)
  rename_i d hd
  cases h
  refine SOk.now fun W F H hag=>?_
  simp only[TS.den]
  exact step (cs:=qx r (encC r p)) (by rw[hxs];simp only[TS.den];rfl) (z2j r p i d hd) hag
 ·cases h
theorem vc {id ver k:Nat} {n:Nat} {t:TypeId} {cs:List PV} (hH:H (2*id)=j8 (G id)) {bd:BD} (hb:(G id).b=some bd) (hd:bd.den = .row t k n cs) (hv:(G id).ver=ver):qj H (2*id) ver=some (t,k,n,cs):=by
 unfold qj
 rw[hH]
 simp only[j8,hb,Option.map_some,hd]
 rw[if_pos hv]
def cellsB:BD→Option (List TS)
 | .box _ xs=>some xs
 | _=>none
theorem y0 {id ver:Nat} {t:TypeId} {xs:List TS} (hH:H (2*id)=j8 (G id)) (hb:(G id).b=some (.box t xs)) (hv:(G id).ver=ver):ji H (2*id) ver=some (jq xs):=by
 unfold ji
 rw[hH]
 simp only[j8,hb,Option.map_some,BD.den]
 rw[if_pos hv]
theorem Ja {id ver:Nat} {k n:Nat} {t:TypeId} {cs:List PV} (hH:H (2*id)=j8 (G id)) {bd:BD} (hb:(G id).b=some bd) (hd:bd.den = .row t k n cs) (hv:(G id).ver=ver):ji H (2*id) ver=some cs:=by
 unfold ji
 rw[hH]
 simp only[j8,hb,Option.map_some,hd]
 rw[if_pos hv]
abbrev i64:Ty := .int .i64
def z0q (bd:Bool) (sl:Bool) (G:EG) (x:TS):Option SR:=match sl with
 | true=>match x with
  | .v ⟨.sl _,l⟩=>some (.vr bd i64 (l.length:Int) [])
  | .own id ver=>match Nat.beq (G id).ver ver with
   | true=>match (G id).b with
    | some (.row _ t l)=>some (.vr bd i64 (l.length:Int) [id])
    | some (.rowx _ _ xs)=>some (.now (.c (.int .i64 xs.length)) [id])
    | _=>none
   | false=>none
  | .c (.slice _ n _)=>some (.now (.c (.int .i64 n)) [])
  | _=>none
 | false=>match x with
  | .v ⟨.str,s⟩=>some (.vr bd i64 (s.length:Int) [])
  | .c (.string s)=>some (.vr bd i64 (s.data.toList.length:Int) [])
  | _=>none
theorem z2m {bd sl:Bool} {t:Nat} {x:Operand} {q:SR} (ho:o.op = .call { callee := .builtin .len,args:=#[x],argTypes:=#[t] }) (ht:sl=true→v8 P t=true) (ht2:sl=false→Yu P t=true) (h:z0q bd sl G (evE E x)=some q):SOk P o E G q:=by
 have hx':x∈o.op.operands:=by rw[ho];simp[Op.operands,Call.operands]
 have step:∀ {rd W F H} {p r:PV},(evE E x).den=p→L.lenP P H t p=some r→Agr o E G rd F H→PQ P W o F H r:=fun {rd W F H p r} h1 h2 hag=>by
  refine jc ?_
  unfold jp;rw[ho]
  show L.lenP P H t (evP F x)=_
  rw[hag.ev hx',h1];exact h2
 unfold z0q at h
 cases sl with
 | true=>
  simp only at h
  split at h
  ·rename_i t' l hx
   cases h
   refine SOk.vr fun W F H hag=>step (p := .sl (wid t') (l.map (enc t'))) (by rw[hx];simp only[TS.den];rfl) ?_ hag
   unfold L.lenP
   simp only
   rw[if_pos (ht rfl),List.length_map];rfl
  ·rename_i id ver hx
   split at h<;>try (cases h;done)
   rename_i hv
   have hv:=Nat.eq_of_beq_eq_true hv
   split at h
   ·rename_i tid t' l hb
    cases h
    refine SOk.vr fun W F H hag=>step (p := .ps (2*id) ver) (by rw[hx];simp only[TS.den]) ?_ hag
    unfold L.lenP
    simp only
    rw[if_pos (ht rfl),vc (hag.h id (by simp)) hb rfl hv];rfl
   ·rename_i tid k xs hb
    cases h
    refine SOk.now fun W F H hag=>?_
    refine(step (p := .ps (2*id) ver) (by rw[hx];simp only[TS.den]) ?_ hag:PQ P W o F H (.u (.int .i64 xs.length)))
    unfold L.lenP
    simp only
    rw[if_pos (ht rfl),vc (hag.h id (by simp)) hb rfl hv];rfl
   ·cases h
  ·rename_i a n c hx
   cases h
   refine SOk.now fun W F H hag=>?_
   refine(step (p := .u (.slice a n c)) (by rw[hx];simp only[TS.den];rfl) ?_ hag:PQ P W o F H (.u (.int .i64 n)))
   unfold L.lenP
   simp only
   rw[if_pos (ht rfl)]
  ·cases h
 | false=>
  simp only at h
  split at h
  ·rename_i s hx
   cases h
   refine SOk.vr fun W F H hag=>step (p := .u (.string ⟨⟨s⟩⟩)) (by rw[hx];simp only[TS.den];rfl) ?_ hag
   unfold L.lenP
   simp only
   rw[if_pos (ht2 rfl)];rfl
  ·rename_i s hx
   cases h
   refine SOk.vr fun W F H hag=>step (p := .u (.string s)) (by rw[hx];simp only[TS.den];rfl) ?_ hag
   unfold L.lenP
   simp only
   rw[if_pos (ht2 rfl)];rfl
  ·cases h
def atL {α:Type} (l:List α) (z:Int):Option α:=match decide (0≤z) with
 | true=>l[z.toNat]?
 | false=>none
def qz (n:Nat) (z:Int):Option Int:=match decide (0≤z) with
 | true=>match decide (z.toNat<n) with
  | true=>some z
  | false=>none
 | false=>none
theorem zeg {α:Type} {l:List α} {z:Int} {y:α} (h:atL l z=some y):0≤z∧l[z.toNat]? = some y:=by
 unfold atL at h
 split at h
 ·rename_i h0;exact⟨of_decide_eq_true h0,h⟩
 ·cases h
theorem zij {n:Nat} {z y:Int} (h:qz n z=some y):0≤z∧z.toNat<n∧y=z:=by
 unfold qz at h
 split at h
 ·rename_i h0
  split at h
  ·rename_i h1;cases h;exact⟨of_decide_eq_true h0,of_decide_eq_true h1,rfl⟩
  ·cases h
 ·cases h
def oeq (a b:Option Nat):Bool:=match a,b with
 | some x,some y=>Nat.beq x y
 | _,_=>false
theorem zf4 {a:Option Nat} {k:Nat} (h:oeq a (some k)=true):a=some k:=by
 unfold oeq at h
 split at h
 ·rename_i e;cases e;rw[Nat.eq_of_beq_eq_true h]
 ·cases h
def z7c:TS→Option Int
 | .c (.int _ z)=>some z
 | _=>none
def jch:List TS→Nat→Bool
 | [],_=>false
 | x :: xs,off=>match Nat.blt off (Qu x) with
  | true=>match x with
   | .v ⟨.arr _ _,_⟩=>Nat.beq off 0
   | _=>false
  | false=>jch xs (off-Qu x)
def cstA (xs:List TS) (off:Nat) (i:TS):Option Int:=match jch xs off with
 | true=>none
 | false=>z7c i
theorem z4a {xs:List TS} {off:Nat} {i:TS} {z:Int} (h:cstA xs off i=some z):z7c i=some z:=by
 unfold cstA at h
 split at h
 ·cases h
 ·exact h
def sIdx (es:Option Nat) (ar:Option (Nat×Nat)) (G:EG) (x i:TS):Option SR:=qp (zbc i) fun z=>match x with
 | .v ⟨.sl t,l⟩=>match oeq es (some (wid t)) with
  | true=>some (.dat t.D (atL l z) (fun y => .rd ⟨t,y⟩) [])
  | false=>none
 | .rd ⟨.arr n t,a⟩=>match ar with
  | some (n',k)=>match Nat.beq n' n && Nat.beq k (wid t) with
   | true=>some (.dat t.D (atL a.l z) (fun y => .rd ⟨t,y⟩) [])
   | false=>none
  | none=>none
 | .own id ver=>match Nat.beq (G id).ver ver with
  | true=>match (G id).b with
   | some (.row _ t l)=>match oeq es (some (wid t)) with
    | true=>some (.dat Int (qz l.length z) (fun y => .elt id (wid t) y 0 ver) [id])
    | false=>none
   | some (.rowx _ k xs)=>match oeq es (some k) with
    | true=>match z7c i with
     | some z=>match qz xs.length z with
      | some z=>some (.now (.pt id (z.toNat*k) ver) [id])
      | none=>none
     | none=>none
    | false=>none
   | _=>none
  | false=>none
 | .pt id off ver=>match Nat.beq (G id).ver ver with
  | true=>match (G id).b with
   | some (.box _ xs)=>match ar with
    | some (n,k)=>match cstA xs off i with
     | some z=>match qz n z with
      | some z=>some (.now (.pt id (off+z.toNat*k) ver) [id])
      | none=>none
     | none=>some (.dat Int (qz n z) (fun y => .elt id k y off ver) [id])
    | none=>none
   | _=>none
  | false=>none
 | _=>none
theorem zri {i:TS} {z z':Int} (h:z7c i=some z) (h':zbc i=some z'):z=z':=by
 unfold z7c at h
 split at h
 ·cases h;simp only[zbc] at h';cases h';rfl
 ·cases h
theorem Zt {α:Type} (f:α→List PV) (k:Nat):∀(l:List α),(∀ x∈l,(f x).length=k)→∀(j:Nat) (y:α),l[j]? = some y→∃ rest,(l.flatMap f).drop (j*k)=f y++rest
 | [],_,j,y,h=>by simp at h
 | a :: l,hl,0,y,h=>by
  simp at h;subst h
  exact⟨l.flatMap f,by simp⟩
 | a :: l,hl,j+1,y,h=>by
  obtain⟨rest,hr⟩:=Zt f k l (fun x hx=>hl x (by simp[hx])) j y (by simpa using h)
  refine⟨rest,?_⟩
  rw[List.flatMap_cons,Nat.succ_mul,Nat.add_comm,← List.drop_drop,List.drop_left' (hl a (by simp))]
  exact hr
theorem z95 {t:Nat} {x i:Operand} {q:SR} (ho:o.op = .indexAddr t x i) (h:sIdx (esz P t) (arr P t) G (evE E x) (evE E i)=some q):SOk P o E G q:=by
 have hx':x∈o.op.operands:=by rw[ho];simp[Op.operands]
 have hi':i∈o.op.operands:=by rw[ho];simp[Op.operands]
 unfold sIdx at h
 obtain⟨z,hz,h⟩:=jm h
 obtain⟨kd,hk⟩:=Vj hz
 have step:∀ {rd W F H} {p r:PV},(evE E x).den=p→L.indexAddrP P H t p (.u (.int kd z))=some r→Agr o E G rd F H→PQ P W o F H r:=fun {rd W F H p r} h1 h2 hag=>by
  refine jc ?_
  unfold jp;rw[ho]
  simp only
  rw[hag.ev hx',hag.ev hi',h1,hk];exact h2
 split at h
 ·rename_i t' l hx
  split at h<;>cases h
  rename_i he
  have he:=zf4 he
  refine SOk.dat fun y hy W F H hag=>?_
  obtain⟨h0,hy⟩:=zeg hy
  simp only[TS.den]
  refine step (p := .sl (wid t') (l.map (enc t'))) (by rw[hx];simp only[TS.den];rfl) ?_ hag
  unfold L.indexAddrP
  simp only
  rw[if_pos h0,if_pos he,List.getElem?_map,hy]
  simp only[Option.map_some,enc_cells]
 ·rename_i n t' a hx
  split at h<;>try (cases h;done)
  rename_i n' k har
  split at h<;>cases h
  rename_i hb
  simp only[Bool.and_eq_true] at hb
  have e1:=Nat.eq_of_beq_eq_true hb.1
  have e2:=Nat.eq_of_beq_eq_true hb.2
  subst e1;subst e2
  refine SOk.dat fun y hy W F H hag=>?_
  obtain⟨h0,hy⟩:=zeg hy
  simp only[TS.den]
  have hlt:z.toNat<n':=by rw[← a.h];exact(List.getElem?_eq_some_iff.1 hy).1
  obtain⟨rest,hr⟩:=Zt (encC t') (wid t') a.l (fun x _=>jr t' x) _ y hy
  refine PQ.ref (step (p := .rp (encC (.arr n' t') a)) (r := .rp (encC t' y++rest)) (by rw[hx];simp only[TS.den]) ?_ hag) Ref.rpL'
  unfold L.indexAddrP
  simp only
  rw[if_pos h0,har]
  simp only
  rw[if_pos hlt]
  simp only[encC]
  rw[hr]
 ·rename_i id ver hx
  split at h<;>try (cases h;done)
  rename_i hv
  have hv:=Nat.eq_of_beq_eq_true hv
  split at h
  ·rename_i tid t' l hb
   split at h<;>cases h
   rename_i he
   have he:=zf4 he
   refine SOk.dat fun y hy W F H hag=>?_
   obtain⟨h0,hlt,rfl⟩:=zij hy
   refine(step (p := .ps (2*id) ver) (by rw[hx];simp only[TS.den]) ?_ hag:PQ P W o F H (TS.elt id (wid t') y 0 ver).den)
   simp only[TS.den]
   unfold L.indexAddrP
   simp only
   rw[if_pos h0,vc (hag.h id (by simp)) hb rfl hv]
   simp only
   rw[if_pos ⟨he,hlt⟩];rfl
  ·rename_i tid k xs hb
   split at h<;>try (cases h;done)
   rename_i he
   have he:=zf4 he
   split at h<;>try (cases h;done)
   rename_i z1 hz1
   have:=zri hz1 hz
   subst this
   split at h<;>cases h
   rename_i z2 hz2
   obtain⟨h0,hlt,rfl⟩:=zij hz2
   refine SOk.now fun W F H hag=>?_
   refine(step (p := .ps (2*id) ver) (by rw[hx];simp only[TS.den]) ?_ hag:PQ P W o F H (TS.pt id (z2.toNat*k) ver).den)
   simp only[TS.den]
   unfold L.indexAddrP
   simp only
   rw[if_pos h0,vc (hag.h id (by simp)) hb rfl hv]
   simp only
   rw[if_pos ⟨he,hlt⟩]
  ·cases h
 ·rename_i id off ver hx
  split at h<;>try (cases h;done)
  rename_i hv
  have hv:=Nat.eq_of_beq_eq_true hv
  split at h<;>try (cases h;done)
  rename_i tid xs hb
  split at h<;>try (cases h;done)
  rename_i n k har
  have key:∀ {W F H} {y:Int},qz n z=some y→Agr o E G [id] F H→PQ P W o F H (.pp (2*id) (off+y.toNat*k) ver):=fun {W F H y} hy hag=>by
   obtain⟨h0,hlt,rfl⟩:=zij hy
   refine step (p := .pp (2*id) off ver) (by rw[hx];simp only[TS.den]) ?_ hag
   unfold L.indexAddrP
   simp only
   rw[if_pos h0,har]
   simp only
   rw[if_pos hlt,y0 (hag.h id (by simp)) hb hv];rfl
  split at h
  ·rename_i z1 hz1
   have:=zri (z4a hz1) hz
   subst this
   split at h<;>cases h
   rename_i z2 hz2
   exact SOk.now fun W F H hag=>by simp only[TS.den];exact key hz2 hag
  ·cases h
   refine SOk.dat fun y hy W F H hag=>?_
   simp only[TS.den]
   rw[Nat.add_comm]
   exact key hy hag
 ·cases h
end
end Go.Proofs.YtdllbdlnmjngcaaGreat.T

namespace Go.Proofs.YtdllbdlnmjngcaaGreat.T
open Go Go.RowKit L
set_option linter.unusedVariables false
set_option linter.unusedSimpArgs false
def ldT (ag:Bool) (k off:Nat) (xs:List TS):Option TS:=match Qa 512 off xs with
 | none=>none
 | some q=>match Qa 512 k q.2 with
  | none=>none
  | some r=>match Yt ag r.1 with
   | .dead=>none
   | s=>match ag || Nat.beq k 1 with
    | true=>some s
    | false=>none
theorem zgc {ag:Bool} {k off:Nat} {xs:List TS} {s:TS} (h:ldT ag k off xs=some s):(∃ p,qk ag k ((jq xs).drop off)=some p∧Ref p s.den)∧∃ rest,(jq xs).drop off=s.den.cells++rest:=by
 unfold ldT at h
 split at h<;>try (cases h;done)
 rename_i q hq
 split at h<;>try (cases h;done)
 rename_i r hr
 split at h<;>try (cases h;done)
 rename_i hnd
 split at h<;>cases h
 rename_i hk
 obtain⟨a1,a2⟩:=zg _ _ _ _ hq
 obtain⟨b1,b2⟩:=zg _ _ _ _ hr
 have e:(jq xs).drop off=jq r.1++jq r.2:=by rw[← a1,List.drop_left' a2,b1]
 rw[e]
 refine⟨z2g b2 fun ha=>?_,jq r.2,by rw[Qt hnd]⟩
 rw[ha] at hk
 exact Nat.eq_of_beq_eq_true (by simpa using hk)
section
variable {P : Program} {o : Oper} {E : EF} {G : EG} {rd : List Nat} {F : PFrame} {H : PHeap} {W : Env}
def sFld (fo k:Nat) (ag:Bool) (G:EG) (x:TS):Option SR:=match Nat.beq k 0 with
 | true=>none
 | false=>match x with
  | .rd d=>match ldT ag k fo [.v d] with
   | some (.v d')=>some (.now (.rd d') [])
   | _=>none
  | .pt id off ver=>match Nat.beq (G id).ver ver with
   | true=>match (G id).b with
    | some (.box _ _)=>some (.now (.pt id (off+fo) ver) [id])
    | some (.rowx _ _ _)=>some (.now (.pt id (off+fo) ver) [id])
    | _=>none
   | false=>none
  | .elt id w i off ver=>match Nat.beq (G id).ver ver with
   | true=>match (G id).b with
    | some (.box _ _)=>some (.now (.elt id w i (off+fo) ver) [id])
    | some (.row _ _ _)=>some (.now (.elt id w i (off+fo) ver) [id])
    | _=>none
   | false=>none
  | _=>none
theorem zan {id ver:Nat} (hH:H (2*id)=j8 (G id)) {bd:BD} (hb:(G id).b=some bd) (hd:(∃ t xs,bd = .box t xs)∨(∃ t k xs,bd = .rowx t k xs)∨(∃ t y l,bd = .row t y l)) (hv:(G id).ver=ver):(ji H (2*id) ver).isSome=true:=by
 rcases hd with ⟨t,xs,rfl⟩ | ⟨t,k,xs,rfl⟩ | ⟨t,y,l,rfl⟩
 ·rw[y0 hH hb hv];rfl
 ·rw[Ja hH hb rfl hv];rfl
 ·rw[Ja hH hb rfl hv];rfl
theorem jb1 {s f fo ft k:Nat} {ag:Bool} {x:Operand} {q:SR} (ho:o.op = .fieldAddr s x f) (hf:fof P s f=some (fo,ft)) (ht:asz P ft=some (ag,k)) (h:sFld fo k ag G (evE E x)=some q):SOk P o E G q:=by
 have hx':x∈o.op.operands:=by rw[ho];simp[Op.operands]
 have step:∀ {rd W F H} {p r:PV},(evE E x).den=p→L.fieldAddrP P H s f p=some r→Agr o E G rd F H→PQ P W o F H r:=fun {rd W F H p r} h1 h2 hag=>by
  refine jc ?_
  unfold jp;rw[ho]
  simp only
  rw[hag.ev hx',h1];exact h2
 unfold sFld at h
 split at h<;>try (cases h;done)
 rename_i hk0
 have hk0:¬ k=0:=fun e=>by subst e;cases hk0
 have own:∀ {W F H} {id oo ver:Nat},(evE E x).den = .pp (2*id) oo ver→(ji H (2*id) ver).isSome=true→Agr o E G [id] F H→PQ P W o F H (.pp (2*id) (oo+fo) ver):=fun {W F H id oo ver} h1 h2 hag=>by
  refine step (p := .pp (2*id) oo ver) h1 ?_ hag
  unfold L.fieldAddrP
  rw[hf]
  simp only
  rw[ht]
  simp only
  rw[if_neg hk0]
  cases hl:ji H (2*id) ver with
  | none=>rw[hl] at h2;cases h2
  | some cs=>rfl
 split at h
 ·rename_i d hx
  split at h<;>cases h
  rename_i d' hd
  obtain⟨_,rest,hr⟩:=zgc hd
  simp only[jq,TS.den,enc_cells,List.append_nil] at hr
  refine SOk.now fun W F H hag=>?_
  simp only[TS.den]
  refine PQ.ref (step (p := .rp (encC d.t d.x)) (r := .rp (encC d'.t d'.x++rest)) (by rw[hx];simp only[TS.den]) ?_ hag) Ref.rpL'
  unfold L.fieldAddrP
  rw[hf]
  simp only
  rw[ht]
  simp only
  rw[if_neg hk0,hr]
 ·rename_i id off ver hx
  split at h<;>try (cases h;done)
  rename_i hv
  have hv:=Nat.eq_of_beq_eq_true hv
  split at h<;>cases h
  ·rename_i t xs hb
   exact SOk.now fun W F H hag=>by simp only[TS.den];exact own (by rw[hx];simp only[TS.den]) (zan (hag.h id (by simp)) hb (.inl ⟨_,_,rfl⟩) hv) hag
  ·rename_i t w xs hb
   exact SOk.now fun W F H hag=>by simp only[TS.den];exact own (by rw[hx];simp only[TS.den]) (zan (hag.h id (by simp)) hb (.inr (.inl ⟨_,_,_,rfl⟩)) hv) hag
 ·rename_i id w i off ver hx
  split at h<;>try (cases h;done)
  rename_i hv
  have hv:=Nat.eq_of_beq_eq_true hv
  split at h<;>cases h
  ·rename_i t xs hb
   exact SOk.now fun W F H hag=>by simp only[TS.den];rw[← Nat.add_assoc];exact own (by rw[hx];simp only[TS.den]) (zan (hag.h id (by simp)) hb (.inl ⟨_,_,rfl⟩) hv) hag
  ·rename_i t y l hb
   exact SOk.now fun W F H hag=>by simp only[TS.den];rw[← Nat.add_assoc];exact own (by rw[hx];simp only[TS.den]) (zan (hag.h id (by simp)) hb (.inr (.inr ⟨_,_,_,rfl⟩)) hv) hag
 ·cases h
def zhy:List TS→Nat→Option (TS×Nat)
 | [],_=>none
 | x :: xs,off=>match Nat.blt off (Qu x) with
  | true=>some (x,off)
  | false=>zhy xs (off-Qu x)
theorem zxw:∀ {xs:List TS} {off:Nat} {r:TS×Nat},zhy xs off=some r→∃ pre post,jq xs=pre++r.1.den.cells++post∧pre.length+r.2=off∧r.2<Qu r.1
 | [],off,r,h=>by simp[zhy] at h
 | x :: xs,off,r,h=>by
  simp only[zhy] at h
  split at h
  ·rename_i hb
   cases h
   refine⟨[],jq xs,by simp only[jq,List.nil_append],by simp,by simpa [Nat.blt_eq] using hb⟩
  ·rename_i hb
   obtain⟨pre,post,h1,h2,h3⟩:=zxw h
   refine⟨x.den.cells++pre,post,by simp only[jq,h1,List.append_assoc],?_,h3⟩
   have hl:=zer x
   have:¬ off<Qu x:=by
    intro hlt
    have:Nat.blt off (Qu x)=true:=by simpa [Nat.blt_eq] using hlt
    rw[hb] at this;cases this
   rw[List.length_append,hl];omega
def zov (o:Option TS):TS:=match o with
 | some s=>s
 | none => .dead
def sLd (ag:Bool) (k:Nat) (G:EG) (x:TS):Option SR:=match x with
 | .rd d=>match ldT ag k 0 [.v d] with
  | some s=>some (.now s [])
  | none=>none
 | .pt id off ver=>match Nat.beq (G id).ver ver with
  | true=>match (G id).b with
   | some (.box _ xs)=>match ldT ag k off xs with
    | some s=>some (.now s [id])
    | none=>none
   | some (.rowx _ _ xs)=>match ldT ag k off xs with
    | some s=>some (.now s [id])
    | none=>none
   | _=>none
  | false=>none
 | .elt id w i off ver=>match Nat.beq (G id).ver ver with
  | true=>match (G id).b with
   | some (.row _ t l)=>match Nat.beq w (wid t) && (Nat.ble (off+k) w && (ag || Nat.beq k 1)) with
    | true=>some (.dat t.D (atL l i) (fun y=>zov (ldT ag k off [.v ⟨t,y⟩])) [id])
    | false=>none
   | some (.box _ xs)=>match zhy xs off with
    | some (.v ⟨.arr n t,a⟩,off')=>match Nat.beq w (wid t) && (Nat.ble (off'+k) w && (ag || Nat.beq k 1)) with
     | true=>some (.dat t.D (atL a.l i) (fun y=>zov (ldT ag k off' [.v ⟨t,y⟩])) [id])
     | false=>none
    | _=>none
   | _=>none
  | false=>none
 | _=>none
theorem z24 {ag:Bool} {k:Nat} {cs ds:List PV} {p:PV} (h:qk ag k cs=some p):qk ag k (cs++ds)=some p:=by
 unfold qk at h ⊢
 cases ag with
 | true=>
  simp only[if_true] at h ⊢
  split at h<;>cases h
  rename_i hk
  rw[if_pos (by simp;omega),List.take_append_of_le_length hk]
 | false=>
  simp at h ⊢
  rw[List.getElem?_append_left (List.getElem?_eq_some_iff.1 h).1];exact h
theorem z39 {ag:Bool} {k off:Nat} {t:Ty} {y:t.D} {cs rest:List PV} (hcs:cs=encC t y++rest) (hP:∃ p,qk ag k (cs.drop off)=some p):∃ p,qk ag k (cs.drop off)=some p∧Ref p (zov (ldT ag k off [.v ⟨t,y⟩])).den:=by
 unfold zov
 split
 ·rename_i s hs
  obtain⟨⟨p,h1,h2⟩,rest',h3⟩:=zgc hs
  simp only[jq,TS.den,enc_cells,List.append_nil] at h1 h3
  refine⟨p,?_,h2⟩
  rw[hcs]
  by_cases hle:off≤(encC t y).length
  ·rw[List.drop_append_of_le_length hle]
   exact z24 h1
  ·rw[List.drop_eq_nil_of_le (by omega)] at h1
   unfold qk at h1
   cases ag with
   | true=>
    simp only[if_true,List.length_nil] at h1
    split at h1
    ·rename_i hk
     have:k=0:=by omega
     subst this
     cases h1
     unfold qk
     simp
    ·cases h1
   | false=>simp at h1
 ·obtain⟨p,hp⟩:=hP
  exact⟨p,hp,by simp only[TS.den];exact Ref.unk p⟩
theorem z3m {ag:Bool} {k:Nat} {cs:List PV} (h:k≤cs.length) (hk:(ag || Nat.beq k 1)=true):∃ p,qk ag k cs=some p:=by
 unfold qk
 cases ag with
 | true=>simp only[if_true];rw[if_pos h];exact⟨_,rfl⟩
 | false=>
  have:k=1:=Nat.eq_of_beq_eq_true (by simpa using hk)
  subst this
  cases cs with
  | nil=>simp at h
  | cons c cs=>exact⟨c,by simp⟩
theorem zxf {ag:Bool} {k off i:Nat} {t:Ty} {l:List t.D} {y:t.D} (hy:l[i]? = some y) (hle:off+k≤wid t) (hk:(ag || Nat.beq k 1)=true) (rest:List PV):∃ p,qk ag k ((l.flatMap (encC t)++rest).drop (i*wid t+off))=some p∧Ref p (zov (ldT ag k off [.v ⟨t,y⟩])).den:=by
 obtain⟨r1,hr⟩:=Zt (encC t) (wid t) l (fun x _=>jr t x) i y hy
 have hlen:(l.flatMap (encC t)).length=l.length*wid t:=zh _ _ _ fun x _=>jr t x
 have hi:=(List.getElem?_eq_some_iff.1 hy).1
 have hmul:i*wid t+wid t≤l.length*wid t:=by
  have:(i+1)*wid t≤l.length*wid t:=Nat.mul_le_mul_right _ hi
  rwa [Nat.succ_mul] at this
 have e:(l.flatMap (encC t)++rest).drop (i*wid t)=encC t y++(r1++rest):=by
  rw[List.drop_append_of_le_length (by omega),hr,List.append_assoc]
 rw[← List.drop_drop,e]
 refine z39 rfl (z3m ?_ hk)
 rw[List.length_drop,List.length_append,jr];omega
theorem sLd_ok {t k:Nat} {ag:Bool} {x:Operand} {q:SR} (ho:o.op = .load t x) (ht:asz P t=some (ag,k)) (h:sLd ag k G (evE E x)=some q):SOk P o E G q:=by
 have hx':x∈o.op.operands:=by rw[ho];simp[Op.operands]
 have step:∀ {rd W F H} {p r:PV},(evE E x).den=p→q6 P H t p=some r→Agr o E G rd F H→PQ P W o F H r:=fun {rd W F H p r} h1 h2 hag=>by
  refine jc ?_
  unfold jp;rw[ho]
  simp only
  rw[hag.ev hx',h1];exact h2
 have own:∀ {W F H} {id oo ver:Nat} {cs:List PV} {s:TS},(evE E x).den = .pp (2*id) oo ver→ji H (2*id) ver=some cs→(∃ p,qk ag k (cs.drop oo)=some p∧Ref p s.den)→Agr o E G [id] F H→PQ P W o F H s.den:=fun {W F H id oo ver cs s} h1 h2 h3 hag=>by
  obtain⟨p,hp,hr⟩:=h3
  refine PQ.ref (step (p := .pp (2*id) oo ver) (r:=p) h1 ?_ hag) hr
  unfold q6
  rw[ht]
  simp only
  rw[h2];exact hp
 unfold sLd at h
 split at h
 ·rename_i d hx
  split at h<;>cases h
  rename_i s hs
  obtain⟨⟨p,h1,h2⟩,_⟩:=zgc hs
  simp only[jq,TS.den,enc_cells,List.append_nil,List.drop_zero] at h1
  refine SOk.now fun W F H hag=>PQ.ref (step (p := .rp (encC d.t d.x)) (r:=p) (by rw[hx];simp only[TS.den]) ?_ hag) h2
  unfold q6
  rw[ht];exact h1
 ·rename_i id off ver hx
  split at h<;>try (cases h;done)
  rename_i hv
  have hv:=Nat.eq_of_beq_eq_true hv
  split at h<;>try (cases h;done)
  ·rename_i tt xs hb
   split at h<;>cases h
   rename_i s hs
   exact SOk.now fun W F H hag=>own (by rw[hx];simp only[TS.den]) (y0 (hag.h id (by simp)) hb hv) (zgc hs).1 hag
  ·rename_i tt w xs hb
   split at h<;>cases h
   rename_i s hs
   exact SOk.now fun W F H hag=>own (by rw[hx];simp only[TS.den]) (Ja (hag.h id (by simp)) hb rfl hv) (zgc hs).1 hag
 ·rename_i id w i off ver hx
  split at h<;>try (cases h;done)
  rename_i hv
  have hv:=Nat.eq_of_beq_eq_true hv
  split at h<;>try (cases h;done)
  ·rename_i tt t' l hb
   split at h<;>cases h
   rename_i hc
   simp only[Bool.and_eq_true] at hc
   have e:=Nat.eq_of_beq_eq_true hc.1
   have hle:=Nat.le_of_ble_eq_true hc.2.1
   subst e
   refine SOk.dat fun y hy W F H hag=>?_
   obtain⟨h0,hy⟩:=zeg hy
   refine own (oo:=i.toNat*wid t'+off) (cs:=l.flatMap (encC t')) (by rw[hx];simp only[TS.den]) (Ja (hag.h id (by simp)) hb rfl hv) ?_ hag
   have:=zxf (ag:=ag) (k:=k) (off:=off) hy hle hc.2.2 []
   simpa using this
  ·rename_i tt xs hb
   split at h<;>try (cases h;done)
   rename_i n t' a off' har
   split at h<;>cases h
   rename_i hc
   simp only[Bool.and_eq_true] at hc
   have e:=Nat.eq_of_beq_eq_true hc.1
   have hle:=Nat.le_of_ble_eq_true hc.2.1
   subst e
   refine SOk.dat fun y hy W F H hag=>?_
   obtain⟨h0,hy⟩:=zeg hy
   obtain⟨pre,post,h1,h2,h3⟩:=zxw har
   simp only at h1 h2
   refine own (oo:=i.toNat*wid t'+off) (cs:=jq xs) (by rw[hx];simp only[TS.den]) (y0 (hag.h id (by simp)) hb hv) ?_ hag
   simp only[TS.den,enc_cells,encC] at h1
   have:=zxf (ag:=ag) (k:=k) (off:=off') hy hle hc.2.2 post
   rw[h1,show i.toNat*wid t'+off=pre.length+(i.toNat*wid t'+off') by omega,← List.drop_drop,List.append_assoc,List.drop_left' rfl]
   exact this
 ·cases h
def z1d (s:TS):Option (List TS):=match s with
 | .v ⟨.arr n t,a⟩=>some [.v ⟨.arr n t,a⟩]
 | s=>Zf s
theorem z4o {s:TS} {xs:List TS} (h:z1d s=some xs):s.den = .agg (jq xs):=by
 unfold z1d at h
 split at h
 ·cases h;simp only[TS.den,jq,List.append_nil,enc_cells];rfl
 ·exact zbu h
def sFie (fo k:Nat) (ag:Bool) (x:TS):Option SR:=match z1d x with
 | some xs=>match ldT ag k fo xs with
  | some s=>some (.now s [])
  | none=>none
 | none=>none
theorem jav {t f fo ft k:Nat} {ag:Bool} {x:Operand} {q:SR} (ho:o.op = .field t x f) (hf:fof P t f=some (fo,ft)) (ht:asz P ft=some (ag,k)) (h:sFie fo k ag (evE E x)=some q):SOk P o E G q:=by
 have hx':x∈o.op.operands:=by rw[ho];simp[Op.operands]
 unfold sFie at h
 split at h<;>try (cases h;done)
 rename_i xs hxs
 split at h<;>cases h
 rename_i s hs
 obtain⟨⟨p,h1,h2⟩,_⟩:=zgc hs
 refine SOk.now fun W F H hag=>PQ.ref (jc ?_) h2
 unfold jp;rw[ho]
 simp only
 rw[hag.ev hx',z4o hxs]
 unfold ztq
 rw[hf]
 simp only
 unfold zru
 rw[ht];exact h1
def zzt (s:List UInt8) (z:Int):Option Int:=match decide (0≤z) with
 | true=>(s[z.toNat]?).map fun b=>(b.toNat:Int)
 | false=>none
def jb8 (x i:TS):Option SR:=qp (zbc i) fun z=>qp (Qm .str x) fun s=>some (.vo (.int .u8) (zzt s z))
theorem z8k {t:TypeId} {x i:Operand} {q:SR} (ho:o.op = .index t x i) (ht:Yu P t=true) (h:jb8 (evE E x) (evE E i)=some q):SOk P o E G q:=by
 have hx':x∈o.op.operands:=by rw[ho];simp[Op.operands]
 have hi':i∈o.op.operands:=by rw[ho];simp[Op.operands]
 obtain⟨z,hz,h⟩:=jm h
 obtain⟨s,hs,h⟩:=jm h
 cases h
 obtain⟨kd,hk⟩:=Vj hz
 refine SOk.vo fun r hr W F H hag=>jc ?_
 unfold zzt at hr
 split at hr<;>try (cases hr;done)
 rename_i h0
 have h0:=of_decide_eq_true h0
 obtain⟨b,hb,rfl⟩:=Option.map_eq_some_iff.1 hr
 unfold jp;rw[ho]
 simp only
 rw[hag.ev hx',hag.ev hi',yd hs,hk]
 show zgd P t (.u (.string ⟨⟨s⟩⟩)) (.u (.int kd z))=_
 unfold zgd
 simp only
 rw[if_pos ht,if_pos h0]
 have:(⟨⟨s⟩⟩:ByteArray)[z.toNat]? = some b:=by
  have e:=(List.getElem?_eq_some_iff.1 hb)
  obtain⟨e1,e2⟩:=e
  have:z.toNat<(⟨⟨s⟩⟩:ByteArray).size:=e1
  rw[getElem?_pos (⟨⟨s⟩⟩:ByteArray) z.toNat this]
  exact congrArg some e2
 rw[this];rfl
def bdL (d:Nat):Option TS→Option (Option Int)
 | none=>some none
 | some s=>match zbc s with
  | some z=>some (some z)
  | none=>none
def bdN (d:Nat):Option Int→Option Nat
 | none=>some d
 | some z=>match decide (0≤z) with
  | true=>some z.toNat
  | false=>none
def zb3 {α:Type} (l:List α) (lo hi:Option Int):Option (List α):=match bdN 0 lo with
 | none=>none
 | some a=>match bdN l.length hi with
  | none=>none
  | some b=>match decide (a≤b) && decide (b≤l.length) with
   | true=>some ((l.take b).drop a)
   | false=>none
def sSli (es:Option Nat) (str:Bool) (x:TS) (lo hi:Option TS):Option SR:=qp (bdL 0 lo) fun a=>qp (bdL 0 hi) fun b=>match x with
 | .v ⟨.sl t,l⟩=>match oeq es (some (wid t)) with
  | true=>some (.vo (.sl t) (zb3 l a b))
  | false=>none
 | .v ⟨.str,s⟩=>match str with
  | true=>some (.vo .str (zb3 s a b))
  | false=>none
 | _=>none
theorem zvk {d d':Nat} {lo:Option Operand} {F:PFrame} (hev:∀ x,lo=some x→evP F x=(evE E x).den) {a:Option Int} (h:bdL d (lo.map (evE E))=some a):zce d' (lo.map (evP F))=bdN d' a:=by
 cases lo with
 | none=>simp only[Option.map_none,bdL] at h;cases h;rfl
 | some x=>
  simp only[Option.map_some,bdL] at h
  split at h<;>cases h
  rename_i z hz
  obtain⟨k,hk⟩:=Vj hz
  simp only[Option.map_some]
  rw[hev x rfl,hk]
  unfold zce bdN
  simp only
  by_cases h0:0≤z
  ·rw[if_pos h0,decide_eq_true h0]
  ·rw[if_neg h0,decide_eq_false h0]
theorem ja8 {t:TypeId} {x:Operand} {lo hi:Option Operand} {q:SR} (ho:o.op = .slice t x lo hi none) (h:sSli (esz P t) (Yu P t) (evE E x) (lo.map (evE E)) (hi.map (evE E))=some q):SOk P o E G q:=by
 have hx':x∈o.op.operands:=by rw[ho];simp[Op.operands]
 have hl':∀ y,lo=some y→y∈o.op.operands:=fun y e=>by rw[ho];subst e;simp[Op.operands]
 have hh':∀ y,hi=some y→y∈o.op.operands:=fun y e=>by rw[ho];subst e;simp[Op.operands]
 obtain⟨a,ha,h⟩:=jm h
 obtain⟨b,hb,h⟩:=jm h
 split at h
 ·rename_i t' l hx
  split at h<;>try (cases h;done)
  rename_i he
  cases h
  have he:=zf4 he
  refine SOk.vo fun r hr W F H hag=>jc ?_
  unfold jp;rw[ho]
  simp only
  rw[hag.ev hx',hx]
  simp only[TS.den]
  rw[zge]
  unfold zie
  simp only
  rw[zvk (E:=E) (fun y e=>hag.ev (hl' y e)) ha,zvk (E:=E) (fun y e=>hag.ev (hh' y e)) hb,List.length_map]
  unfold zb3 at hr
  split at hr<;>try (cases hr;done)
  rename_i n1 h1
  split at hr<;>try (cases hr;done)
  rename_i n2 h2
  split at hr<;>cases hr
  rename_i hc
  simp only[Bool.and_eq_true,decide_eq_true_eq] at hc
  rw[h1,h2]
  simp only
  rw[if_pos ⟨he,hc.1,hc.2⟩,zge,List.map_drop,List.map_take]
 ·rename_i s hx
  split at h<;>try (cases h;done)
  rename_i hst
  cases h
  refine SOk.vo fun r hr W F H hag=>jc ?_
  unfold jp;rw[ho]
  simp only
  rw[hag.ev hx',hx]
  simp only[TS.den]
  show zie P t (.u (.string ⟨⟨s⟩⟩)) _ _=_
  unfold zie
  simp only
  have hsz:(⟨⟨s⟩⟩:ByteArray).size=s.length:=rfl
  rw[zvk (E:=E) (fun y e=>hag.ev (hl' y e)) ha,zvk (E:=E) (fun y e=>hag.ev (hh' y e)) hb,hsz]
  unfold zb3 at hr
  split at hr<;>try (cases hr;done)
  rename_i n1 h1
  split at hr<;>try (cases hr;done)
  rename_i n2 h2
  split at hr<;>cases hr
  rename_i hc
  simp only[Bool.and_eq_true,decide_eq_true_eq] at hc
  rw[h1,h2]
  simp only
  rw[if_pos ⟨hst,hc.1,hc.2⟩]
  have:(⟨⟨s⟩⟩:ByteArray).extract n1 n2 = ⟨⟨(s.take n2).drop n1⟩⟩:=by
   apply ByteArray.ext
   rw[ByteArray.data_extract]
   simp[List.extract_eq_take_drop,List.drop_take]
  rw[this];rfl
 ·cases h
end
end Go.Proofs.YtdllbdlnmjngcaaGreat.T

namespace Go.Proofs.YtdllbdlnmjngcaaGreat.T
open Go Go.RowKit L
set_option linter.unusedVariables false
set_option linter.unusedSimpArgs false
def zsl (G:EG) (id ver:Nat):Bool:=match Nat.beq (G id).ver ver with
 | true=>match (G id).b with
  | some (.obj _ _)=>false
  | some _=>true
  | none=>false
 | false=>false
def jbm (G:EG) (id ver:Nat):Bool:=match Nat.beq (G id).ver ver with
 | true=>match (G id).b with
  | some (.row _ _ _)=>true
  | some (.rowx _ _ _)=>true
  | _=>false
 | false=>false
def objB (G:EG) (id ver:Nat):Bool:=match Nat.beq (G id).ver ver with
 | true=>match (G id).b with
  | some (.obj _ _)=>true
  | _=>false
 | false=>false
mutual
def okT (G:EG):TS→Bool
 | .v d=>zav d.t
 | .c (.agg vs)=>vs.toList.all Value.oneCell'
 | .c v=>v.oneCell'
 | .own id ver=>jbm G id ver || objB G id ver
 | .q id _ _ ver=>jbm G id ver
 | .pt id _ ver=>zsl G id ver
 | .elt id _ _ _ ver=>zsl G id ver
 | .rd _=>true
 | .fn _ _ _=>true
 | .agg xs=>zz9 G xs
 | .dead=>false
 | .tup _=>false
def zz9 (G:EG):List TS→Bool
 | []=>true
 | x :: xs=>okT G x && zz9 G xs
end
mutual
def ze6:TS→List Nat
 | .own id _=>[id]
 | .q id _ _ _=>[id]
 | .pt id _ _=>[id]
 | .elt id _ _ _ _=>[id]
 | .agg xs=>zds xs
 | _=>[]
def zds:List TS→List Nat
 | []=>[]
 | x :: xs=>ze6 x++zds xs
end
section
variable {P : Program} {o : Oper} {E : EF} {G : EG} {rd : List Nat} {F : PFrame} {H : PHeap} {W : Env}
theorem zrn {id ver:Nat} (h:jbm G id ver=true) (hH:H (2*id)=j8 (G id)):(qj H (2*id) ver).isSome=true:=by
 unfold jbm at h
 split at h<;>try (cases h;done)
 rename_i hv
 have hv:=Nat.eq_of_beq_eq_true hv
 split at h<;>try (cases h;done)
 ·rename_i hb;rw[vc hH hb rfl hv];rfl
 ·rename_i hb;rw[vc hH hb rfl hv];rfl
theorem z3b {id ver:Nat} (h:objB G id ver=true) (hH:H (2*id)=j8 (G id)):zhn H (2*id) ver=true:=by
 unfold objB at h
 split at h<;>try (cases h;done)
 rename_i hv
 split at h<;>try (cases h;done)
 rename_i k x hb
 obtain⟨p,φ,e⟩:=k.den_raw x
 unfold zhn
 rw[hH]
 simp only[j8,hb,Option.map_some,BD.den,e,hv]
theorem zcr {id ver:Nat} (h:zsl G id ver=true) (hH:H (2*id)=j8 (G id)):(ji H (2*id) ver).isSome=true:=by
 unfold zsl at h
 split at h<;>try (cases h;done)
 rename_i hv
 have hv:=Nat.eq_of_beq_eq_true hv
 split at h<;>try (cases h;done)
 rename_i bd hnm hb
 cases bd with
 | obj k x=>exact absurd rfl (hnm k x)
 | row t y l=>exact zan hH hb (.inr (.inr ⟨_,_,_,rfl⟩)) hv
 | rowx t k xs=>exact zan hH hb (.inr (.inl ⟨_,_,_,rfl⟩)) hv
 | box t xs=>exact zan hH hb (.inl ⟨_,_,rfl⟩) hv
mutual
theorem zy8:∀(s:TS),okT G s=true→(∀ id∈ze6 s,H (2*id)=j8 (G id))→∀ c∈s.den.cells,qc H c=true
 | .v d,h,hi,c,hc=>by
  simp only[okT] at h
  simp only[TS.den,enc_cells] at hc
  exact Z4 _ _ H h c hc
 | .c v,h,hi,c,hc=>by
  simp only[TS.den] at hc
  cases v with
  | agg vs=>
   simp only[okT,List.all_eq_true] at h
   simp only[ofV,PV.cells] at hc
   obtain⟨u,hu,rfl⟩:=List.mem_map.1 hc
   exact h u hu
  | _=>simp only[okT] at h;simp only[ofV,PV.cells,List.mem_singleton] at hc;subst hc;exact h
 | .own id ver,h,hi,c,hc=>by
  simp only[okT,Bool.or_eq_true] at h
  simp only[TS.den,PV.cells,List.mem_singleton] at hc;subst hc
  simp only[qc,Bool.or_eq_true]
  rcases h with h | h
  ·exact .inl (zrn h (hi id (by simp only[ze6,List.mem_singleton])))
  ·exact .inr (z3b h (hi id (by simp only[ze6,List.mem_singleton])))
 | .q id k off ver,h,hi,c,hc=>by
  simp only[okT] at h
  simp only[TS.den,PV.cells,List.mem_singleton] at hc;subst hc
  exact zrn h (hi id (by simp only[ze6,List.mem_singleton]))
 | .pt id off ver,h,hi,c,hc=>by
  simp only[okT] at h
  simp only[TS.den,PV.cells,List.mem_singleton] at hc;subst hc
  exact zcr h (hi id (by simp only[ze6,List.mem_singleton]))
 | .elt id k i off ver,h,hi,c,hc=>by
  simp only[okT] at h
  simp only[TS.den,PV.cells,List.mem_singleton] at hc;subst hc
  exact zcr h (hi id (by simp only[ze6,List.mem_singleton]))
 | .rd d,h,hi,c,hc=>by simp only[TS.den,PV.cells,List.mem_singleton] at hc;subst hc;rfl
 | .fn f a b,h,hi,c,hc=>by simp only[TS.den,PV.cells,List.mem_singleton] at hc;subst hc;rfl
 | .agg xs,h,hi,c,hc=>by
  simp only[okT] at h
  simp only[TS.den,PV.cells] at hc
  exact zrz xs h (by simpa only [ze6] using hi) c hc
 | .dead,h,hi,c,hc=>by simp[okT] at h
 | .tup _,h,hi,c,hc=>by simp[okT] at h
theorem zrz:∀(xs:List TS),zz9 G xs=true→(∀ id∈zds xs,H (2*id)=j8 (G id))→∀ c∈jq xs,qc H c=true
 | [],h,hi,c,hc=>by simp[jq] at hc
 | x :: xs,h,hi,c,hc=>by
  simp only[zz9,Bool.and_eq_true] at h
  simp only[jq,List.mem_append] at hc
  simp only[zds,List.mem_append] at hi
  rcases hc with hc | hc
  ·exact zy8 x h.1 (fun id hid=>hi id (.inl hid)) c hc
  ·exact zrz xs h.2 (fun id hid=>hi id (.inr hid)) c hc
end
theorem okC_of {p:PV} (h:∀ c∈p.cells,qc H c=true) (hn:(∃ cs,p = .agg cs)∨p.cells=[p]):okC H p=true:=by
 rcases hn with ⟨cs,rfl⟩ | hn
 ·simp only[okC,List.all_eq_true];exact h
 ·have:=h p (by rw[hn];simp)
  cases p with
  | agg cs=>simp[qc] at this
  | _=>exact this
theorem zct {s:TS} (h:okT G s=true) (hi:∀ id∈ze6 s,H (2*id)=j8 (G id)):okC H s.den=true:=by
 refine okC_of (zy8 s h hi) ?_
 cases hs:Jg s
 ·exact .inr (Qv hs)
 ·exact .inl ⟨_,zae hs⟩
abbrev ZT:=TypeId→Option (List TS)
def zdl (P:Program) (zt:ZT):Prop:=∀ t xs,zt t=some xs→∃ us,q7 P t=some us∧us.all Value.oneCell'=true∧RefL (us.map .u) (jq xs)
def zk8 (off k:Nat) (s:TS) (xs:List TS):Option (List TS):=match Qa 512 off xs with
 | none=>none
 | some q=>match Qa 512 k q.2 with
  | none=>none
  | some r=>match Nat.beq (Qu s) k with
   | true=>some (q.1++s :: r.2)
   | false=>none
theorem ztg {off k:Nat} {s:TS} {xs ys:List TS} (h:zk8 off k s xs=some ys):jq ys=setMany (jq xs) off s.den.cells∧off+k≤(jq xs).length∧s.den.cells.length=k:=by
 unfold zk8 at h
 split at h<;>try (cases h;done)
 rename_i q hq
 split at h<;>try (cases h;done)
 rename_i r hr
 split at h<;>cases h
 rename_i hk
 have hk:s.den.cells.length=k:=by rw[zer];exact Nat.eq_of_beq_eq_true hk
 obtain⟨a1,a2⟩:=zg _ _ _ _ hq
 obtain⟨b1,b2⟩:=zg _ _ _ _ hr
 refine⟨?_,?_,hk⟩
 ·unfold setMany
  rw[zki,← a1,← b1]
  simp only[jq]
  rw[List.take_left' a2,← List.append_assoc,hk]
  congr 1
  rw[← List.append_assoc,List.drop_left' (by rw[List.length_append,a2,b2])]
 ·rw[← a1,← b1]
  simp only[List.length_append,a2,b2];omega
def zwl (places:List (Nat×Nat)):List TS→List (Nat×TS)→Option (List TS)
 | xs,[]=>some xs
 | xs,(i,s) :: r=>match places[i]? with
  | none=>none
  | some pl=>match zk8 pl.1 pl.2 s xs with
   | some ys=>zwl places ys r
   | none=>none
theorem RefL.setMany {cs ds:List PV} (h:RefL cs ds) (off:Nat) (ps:List PV):RefL (setMany cs off ps) (setMany ds off ps):=RefL.append (RefL.append (h.take off) (RefL.refl ps)) (h.drop _)
theorem zwz {places:List (Nat×Nat)}:∀(parts:List (Nat×TS)) (xs ys:List TS) (cs:List PV),zwl places xs parts=some ys→RefL cs (jq xs)→(∀ p∈parts,okC H p.2.den=true)→∃ r,Vt H places cs (parts.map fun p=>(p.1,p.2.den))=some r∧RefL r (jq ys)
 | [],xs,ys,cs,h,hr,_=>by simp only[zwl] at h;cases h;exact⟨cs,rfl,hr⟩
 | (i,s) :: parts,xs,ys,cs,h,hr,ho=>by
  simp only[zwl] at h
  split at h<;>try (cases h;done)
  rename_i pl hpl
  split at h<;>try (cases h;done)
  rename_i zs hz
  obtain⟨h1,h2,h3⟩:=ztg hz
  obtain⟨r,hr1,hr2⟩:=zwz parts zs ys (setMany cs pl.1 s.den.cells) h (by rw[h1];exact hr.setMany _ _) fun p hp=>ho p (by simp[hp])
  refine⟨r,?_,hr2⟩
  obtain⟨off,size⟩:=pl
  simp only[List.map_cons,Vt,hpl]
  rw[if_pos ⟨h3,by rw[hr.1];exact h2,ho (i,s) (by simp)⟩]
  exact hr1
def zhk (P:Program) (t:TypeId):Option (List (Nat×Nat)):=match P.underlying t with
 | some (.struct fs)=>fs.toList.mapM fun f=>(P.info? f.type).map fun i=>(f.offset,i.size)
 | some (.array m e)=>(P.info? e).map fun i=>(List.range m).map fun j=>(j*i.size,i.size)
 | _=>none
theorem z99 {t:TypeId} {us:List Value} {l:List (Nat×Nat)} (hz:q7 P t=some us) (hp:zhk P t=some l):zx4 P t=some (us.map .u,l):=by
 obtain⟨z,hz1,rfl⟩:=Option.map_eq_some_iff.1 hz
 unfold zx4
 rw[hz1]
 simp only
 unfold zhk at hp
 split at hp
 ·rename_i fs hu
  rw[hu];simp only;rw[hp];rfl
 ·rename_i m e hu
  rw[hu];simp only
  obtain⟨i,hi,rfl⟩:=Option.map_eq_some_iff.1 hp
  rw[hi];rfl
 ·cases hp
def okPs (G:EG) (ps:List (Nat×TS)):Bool:=ps.all fun p=>okT G p.2
def idsPs (ps:List (Nat×TS)):List Nat:=ps.flatMap fun p=>ze6 p.2
theorem z78 (xs:List TS):(Yt true xs).den = .agg (jq xs):=by
 unfold Yt
 simp only
 split
 ·rename_i x
  split
  ·rename_i hx
   simp only[jq,List.append_nil];exact zae hx
  ·simp only[TS.den]
 ·simp only[TS.den]
def aggA (a:Bool) (xs:List TS):TS:=match a with
 | true=>Yt true xs
 | false => .agg xs
theorem z8p (a:Bool) (xs:List TS):(aggA a xs).den = .agg (jq xs):=by
 cases a
 ·simp only[aggA,TS.den]
 ·exact z78 xs
def sBld (zt:ZT) (isA:Bool) (places:Option (List (Nat×Nat))) (t:TypeId) (G:EG) (ps:List (Nat×TS)):Option SR:=match zt t with
 | none=>none
 | some xs=>match places with
  | none=>none
  | some l=>match okPs G ps with
   | true=>match zwl l xs ps with
    | some ys=>some (.now (aggA isA ys) (idsPs ps))
    | none=>none
   | false=>none
theorem jbr {zt:ZT} {isA:Bool} (hzt:zdl P zt) {t:TypeId} {parts:Array (Nat×Operand)} {q:SR} (ho:o.op = .build t parts) (h:sBld zt isA (zhk P t) t G (parts.toList.map fun x=>(x.1,evE E x.2))=some q):SOk P o E G q:=by
 have hx':∀ x∈parts.toList,x.2∈o.op.operands:=fun x hx=>by
  rw[ho]
  simp only[Op.operands,List.mem_toArray,List.mem_map]
  exact⟨x,hx,rfl⟩
 unfold sBld at h
 split at h<;>try (cases h;done)
 rename_i xs hxs
 split at h<;>try (cases h;done)
 rename_i l hl
 split at h<;>try (cases h;done)
 rename_i hok
 split at h<;>cases h
 rename_i ys hys
 obtain⟨us,hu1,hu2,hu3⟩:=hzt t xs hxs
 refine SOk.now fun W F H hag=>?_
 have hoks:∀ p∈(parts.toList.map fun x=>(x.1,evE E x.2)),okC H p.2.den=true:=fun p hp=>by
  refine zct (List.all_eq_true.1 hok p hp) fun id hid=>hag.h id ?_
  exact List.mem_flatMap.2 ⟨p,hp,hid⟩
 obtain⟨r,hr1,hr2⟩:=zwz (H:=H) _ _ _ _ hys hu3 hoks
 refine PQ.ref (p := .agg r) (jc ?_) (by rw[z8p];exact Ref.agg hr2)
 unfold jp;rw[ho]
 simp only
 have e:(parts.toList.map fun x=>(x.1,evP F x.2))=(parts.toList.map fun x=>(x.1,evE E x.2)).map fun p=>(p.1,p.2.den):=by
  rw[List.map_map]
  exact List.map_congr_left fun x hx=>by simp only[Function.comp];rw[hag.ev (hx' x hx)]
 rw[e]
 unfold zio
 rw[z99 hu1 hl]
 simp only
 have hz:(us.map PV.u).all (qc H)=true:=by
  rw[List.all_map];exact hu2
 rw[if_pos hz,hr1];rfl
theorem jbk {f:Fn} {a b:Array Operand} (ho:o.op = .makeFunc f a b):SOk P o E G (.now (.fn f (a.toList.map (evE E)) (b.toList.map (evE E))) []):=SOk.now fun W F H hag=>by
 refine jc ?_
 unfold jp;rw[ho]
 simp only[TS.den]
 have ea:a.toList.map (evP F)=vm (a.toList.map (evE E)):=by
  rw[zaf,List.map_map]
  exact List.map_congr_left fun x hx=>hag.ev (by rw[ho];simp only[Op.operands,Array.mem_append];exact .inl (by simpa using hx))
 have eb:b.toList.map (evP F)=vm (b.toList.map (evE E)):=by
  rw[zaf,List.map_map]
  exact List.map_congr_left fun x hx=>hag.ev (by rw[ho];simp only[Op.operands,Array.mem_append];exact .inr (by simpa using hx))
 rw[ea,eb]
def z8h (G:EG) (x:TS):Option SR:=match x with
 | .rd d=>some (.now (.rd d) [])
 | .fn (.func g) a b=>some (.now (.fn (.func g) a b) [])
 | .pt id off ver=>match zsl G id ver with
  | true=>some (.now (.pt id off ver) [id])
  | false=>none
 | .v ⟨.ref t,op⟩=>some (.dat t.D op (fun y => .rd ⟨t,y⟩) [])
 | _=>none
theorem z86 {x:Operand} {q:SR} (ho:o.op = .nilCheck x) (h:z8h G (evE E x)=some q):SOk P o E G q:=by
 have hx':x∈o.op.operands:=by rw[ho];simp[Op.operands]
 have step:∀ {rd W F H} {p r:PV},(evE E x).den=p→jb4 H p=some r→Agr o E G rd F H→PQ P W o F H r:=fun {rd W F H p r} h1 h2 hag=>by
  refine jc ?_
  unfold jp;rw[ho]
  simp only
  rw[hag.ev hx',h1];exact h2
 unfold z8h at h
 split at h
 ·rename_i d hx
  cases h
  exact SOk.now fun W F H hag=>step (by rw[hx]) (by simp only[TS.den];rfl) hag
 ·rename_i g a b hx
  cases h
  exact SOk.now fun W F H hag=>step (by rw[hx]) (by simp only[TS.den];rfl) hag
 ·rename_i id off ver hx
  split at h<;>cases h
  rename_i hl
  refine SOk.now fun W F H hag=>step (by rw[hx]) ?_ hag
  simp only[TS.den,jb4]
  cases hc:ji H (2*id) ver with
  | none=>have:=zcr hl (hag.h id (by simp));rw[hc] at this;cases this
  | some cs=>rfl
 ·rename_i t op hx
  cases h
  refine SOk.dat fun y hy W F H hag=>?_
  subst hy
  refine step (by rw[hx]) ?_ hag
  simp only[TS.den]
  rfl
 ·cases h
def z88 {α:Type} (l:List α):Option Bool:=match l with
 | []=>none
 | _=>some false
def zgu (op:BinOp) (b:Bool):Option Bool:=match op with
 | .eql=>some b
 | .neq=>some (!b)
 | _=>none
def z68 (bd:Bool) (op:BinOp) (G:EG) (x:TS):Option SR:=match x with
 | .rd _=>match zgu op false with
  | some b=>some (.now (.c (.bool b)) [])
  | none=>none
 | .c (.pointer none)=>match zgu op true with
  | some b=>some (.now (.c (.bool b)) [])
  | none=>none
 | .pt id _ ver=>match zsl G id ver with
  | true=>match zgu op false with
   | some b=>some (.now (.c (.bool b)) [id])
   | none=>none
  | false=>none
 | .v ⟨.ref _,p⟩=>match zgu op p.isNone with
  | some b=>some (.vx bd .bool b)
  | none=>none
 | _=>none
def z5h (op:BinOp) (x:TS):Option SR:=match x with
 | .c (.slice none _ _)=>match zgu op true with
  | some b=>some (.now (.c (.bool b)) [])
  | none=>none
 | .v ⟨.sl _,l⟩=>match op with
  | .eql=>some (.vo .bool (z88 l))
  | .neq=>some (.vo .bool ((z88 l).map fun b=>!b))
  | _=>none
 | _=>none
theorem z10 {op:BinOp} {b c:Bool} (h:zgu op b=some c):zod op (some b)=some (.u (.bool c)):=by
 unfold zgu at h
 split at h<;>cases h<;>rfl
theorem z8o {bd:Bool} {op:BinOp} {t t':Nat} {x:Operand} {q:SR} (ho:o.op = .binOp op t x (.const (.pointer none)) t') (ht:z2s P t=true) (h:z68 bd op G (evE E x)=some q):SOk P o E G q:=by
 have hx':x∈o.op.operands:=by rw[ho];simp[Op.operands]
 have step:∀ {rd W F H} {p:PV} {b c:Bool},(evE E x).den=p→ziy H p=some b→zgu op b=some c→Agr o E G rd F H→PQ P W o F H (.u (.bool c)):=fun {rd W F H p b c} h1 h2 h3 hag=>by
  refine jc ?_
  unfold jp;rw[ho]
  simp only
  unfold zvh
  simp only
  rw[if_pos ht,hag.ev hx',h1,h2]
  exact z10 h3
 unfold z68 at h
 split at h
 ·rename_i d hx
  split at h<;>cases h
  rename_i b hb
  exact SOk.now fun W F H hag=>(step (p := .rp (encC d.t d.x)) (by rw[hx];simp only[TS.den]) rfl hb hag:PQ P W o F H (.u (.bool b)))
 ·rename_i hx
  split at h<;>cases h
  rename_i b hb
  exact SOk.now fun W F H hag=>(step (p := .u (.pointer none)) (by rw[hx];simp only[TS.den];rfl) rfl hb hag:PQ P W o F H (.u (.bool b)))
 ·rename_i id off ver hx
  split at h<;>try (cases h;done)
  rename_i hl
  split at h<;>cases h
  rename_i b hb
  refine SOk.now fun W F H hag=>(step (p := .pp (2*id) off ver) (by rw[hx];simp only[TS.den]) ?_ hb hag:PQ P W o F H (.u (.bool b)))
  simp only[ziy]
  cases hc:ji H (2*id) ver with
  | none=>have:=zcr hl (hag.h id (by simp));rw[hc] at this;cases this
  | some cs=>rfl
 ·rename_i t1 p hx
  split at h<;>cases h
  rename_i b hb
  refine SOk.vx fun W F H hag=>?_
  cases p with
  | none=>exact step (p := .u (.pointer none)) (by rw[hx];simp only[TS.den];rfl) rfl hb hag
  | some y=>exact step (p := .rp (encC t1 y)) (by rw[hx];simp only[TS.den];rfl) rfl hb hag
 ·cases h
theorem z7b {op:BinOp} {t t':Nat} {x:Operand} {q:SR} (ho:o.op = .binOp op t x (.const (.slice none 0 0)) t') (ht:v8 P t=true) (h:z5h op (evE E x)=some q):SOk P o E G q:=by
 have hx':x∈o.op.operands:=by rw[ho];simp[Op.operands]
 have step:∀ {rd W F H} {p:PV} {b c:Bool},(evE E x).den=p→zok H p=some b→zgu op b=some c→Agr o E G rd F H→PQ P W o F H (.u (.bool c)):=fun {rd W F H p b c} h1 h2 h3 hag=>by
  refine jc ?_
  unfold jp;rw[ho]
  simp only
  unfold zvh
  simp only
  rw[if_pos ht,hag.ev hx',h1,h2]
  exact z10 h3
 unfold z5h at h
 split at h
 ·rename_i n c hx
  split at h<;>cases h
  rename_i b hb
  exact SOk.now fun W F H hag=>(step (p := .u (.slice none n c)) (by rw[hx];simp only[TS.den];rfl) rfl hb hag:PQ P W o F H (.u (.bool b)))
 ·rename_i t1 l hx
  split at h<;>cases h
  ·refine SOk.vo fun r hr W F H hag=>?_
   cases l with
   | nil=>cases hr
   | cons y l=>cases hr;exact step (p := .sl (wid t1) ((y :: l).map (enc t1))) (by rw[hx];simp only[TS.den];rfl) rfl rfl hag
  ·refine SOk.vo fun r hr W F H hag=>?_
   cases l with
   | nil=>cases hr
   | cons y l=>cases hr;exact step (p := .sl (wid t1) ((y :: l).map (enc t1))) (by rw[hx];simp only[TS.den];rfl) rfl rfl hag
 ·cases h
theorem jau {d:Nat} {t:TypeId} {A B:Array TypeId} {C:Bool} (hu:P.underlying t=some (.func A B C)) (f:Fn) (va vb:Array Value) (w:World):(Op.equalIn (d+1) t (.func f va vb) .nilFunc).run P w = .ok false w:=by
 simp[Op.equalIn,run_underlying hu]
theorem ja3 {d:Nat} {t:TypeId} {A B:Array TypeId} {C:Bool} (hu:P.underlying t=some (.func A B C)) (w:World):(Op.equalIn (d+1) t .nilFunc .nilFunc).run P w = .ok true w:=by
 simp[Op.equalIn,run_underlying hu]
theorem zxd {op:BinOp} {t:TypeId} {u v:Value} {b c:Bool} {w:World} (hg:∀ x y,(eqGuard op t x y u v).run P w = .ok () w) (he:(Op.equal t u v).run P w = .ok b w) (hb:zgu op b=some c) (h1:binOp .eql t u v=(do pure (.bool (← Op.equal t u v)))) (h2:binOp .neq t u v=(do pure (.bool !(← Op.equal t u v)))) (x y:Operand) :
  (do eqGuard op t x y u v;binOp op t u v:Sem Value).run P w = .ok (.bool c) w:=by
 unfold zgu at hb
 split at hb<;>cases hb
 ·simp[Sem.run_bind,hg,h1,he]
 ·simp[Sem.run_bind,hg,h2,he]
theorem PQ.nilF {op:BinOp} {t t':TypeId} {x:Operand} {b c:Bool} (ho:o.op = .binOp op t x (.const .nilFunc) t') {A B:Array TypeId} {C:Bool} (hu:P.underlying t=some (.func A B C)) (hp:(∃ f a d,evP F x = .fn f a d∧b=false)∨(evP F x = .u .nilFunc∧b=true)) (hb:zgu op b=some c):PQ P W o F H (.u (.bool c)):=PQ.of_run fun V ac w hw hh=>by
 have h1:=hh x (by rw[ho];simp[Op.operands])
 have hv:(b=false∧∃ f va vb,ac.eval x = .func f va vb)∨(b=true∧ac.eval x = .nilFunc):=by
  rcases hp with ⟨f,a,d,e,rfl⟩ | ⟨e,rfl⟩
  ·rw[e] at h1
   generalize ac.eval x=v at h1
   cases h1 with
   | fn _ _ _ va vb=>exact .inl ⟨rfl,f,va,vb,rfl⟩
  ·rw[e] at h1
   generalize ac.eval x=v at h1
   cases h1;exact .inr ⟨rfl,rfl⟩
 refine⟨.bool c,?_, .u _⟩
 have hy:ac.eval (.const .nilFunc) = .nilFunc:=rfl
 have hex:execOp ac.eval o=Next.value <$> (do eqGuard op t x (.const .nilFunc) (ac.eval x) .nilFunc;binOp op t (ac.eval x) .nilFunc:Sem Value):=by
  unfold execOp;rw[ho];simp[hy]
 rw[hex]
 have key:(do eqGuard op t x (.const .nilFunc) (ac.eval x) .nilFunc;binOp op t (ac.eval x) .nilFunc:Sem Value).run P w = .ok (.bool c) w:=by
  rcases hv with ⟨rfl,f,va,vb,e⟩ | ⟨rfl,e⟩
  ·rw[e]
   exact zxd (fun x y=>by cases op<;>rfl) (jau (d:=9999) hu f va vb w) hb rfl rfl x _
  ·rw[e]
   exact zxd (fun x y=>by cases op<;>rfl) (ja3 (d:=9999) hu w) hb rfl rfl x _
 rw[Sem.run_map,key];rfl
end
end Go.Proofs.YtdllbdlnmjngcaaGreat.T

namespace Go.Proofs.YtdllbdlnmjngcaaGreat.T
open Go Go.RowKit L
set_option linter.unusedVariables false
set_option linter.unusedSimpArgs false
inductive BRef:PBody→PBody→Prop
 | row {t:TypeId} {k n:Nat} {cs ds:List PV} (h:RefL cs ds):BRef (.row t k n cs) (.row t k n ds)
 | box {t:TypeId} {cs ds:List PV} (h:RefL cs ds):BRef (.box t cs) (.box t ds)
section
variable {P : Program} {o : Oper} {E : EF} {G : EG} {rd : List Nat} {F : PFrame} {H : PHeap} {W : Env} {n : Nat}
theorem Rp.weakB {Z:ZM} {H:PHeap} {V:Nat→Value} {w:World} {id ver:Nat} {bd bd':PBody} {p:PV} {v:Value} (h:Rp Z (H.set id ⟨ver,some bd⟩) V w p v):Rp Z (H.set id ⟨ver,some bd'⟩) V w p v:=by
 have hs:∀ i,((H.set id ⟨ver,some bd⟩) i).ver=((H.set id ⟨ver,some bd'⟩) i).ver∧((H.set id ⟨ver,some bd⟩) i).body.isSome=((H.set id ⟨ver,some bd'⟩) i).body.isSome:=fun i=>by
  unfold PHeap.set
  by_cases e:i=id
  ·simp[e]
  ·simp[e]
 refine h.mono (fun b hb hlt=>⟨?_,hlt,rfl⟩) (Nat.le_refl _) (fun i=>by rw[(hs i).1];exact Nat.le_refl _) (fun i ver _ h1 h2=>⟨by rw[(hs i).2];exact h1,by rw[(hs i).1];exact h2,rfl⟩)
 rintro(hz | ⟨i,h1,h2⟩)
 ·exact hb (.inl hz)
 ·exact hb (.inr ⟨i,by rw[(hs i).2];exact h1,h2⟩)
theorem Rel.weakB {V:Nat→Value} {a:Act} {w:World} {id ver:Nat} {bd bd':PBody} (hb:BRef bd bd') (hr:Rel P W n F (H.set id ⟨ver,some bd⟩) V a w):Rel P W n F (H.set id ⟨ver,some bd'⟩) V a w:=by
 have hh:=hr.heap
 have hs:∀ i,((H.set id ⟨ver,some bd⟩) i).body.isSome=((H.set id ⟨ver,some bd'⟩) i).body.isSome:=fun i=>by
  unfold PHeap.set
  by_cases e:i=id
  ·simp[e]
  ·simp[e]
 have tr:∀ {p v},Rp W.Z (H.set id ⟨ver,some bd⟩) V w p v→Rp W.Z (H.set id ⟨ver,some bd'⟩) V w p v:=fun h=>Rp.weakB h
 have trL:∀ {ps vs},RpL W.Z (H.set id ⟨ver,some bd⟩) V w ps vs→RpL W.Z (H.set id ⟨ver,some bd'⟩) V w ps vs:=fun h=>h.mono fun p v=>tr
 refine⟨⟨hh.below,fun i t k m cs hbd=>?_,fun i t cs hbd=>?_,fun i p cs φ hbd=>?_,fun i=>tr (hh.ghost i),fun i j g h1 h2=>hh.apart i j g (by rw[hs];exact h1) (by rw[hs];exact h2),hh.zlt,fun i b h1=>hh.nz i b (by rw[hs];exact h1)⟩,hr.size,hr.defers,fun t=>tr (hr.slot t)⟩
 ·by_cases e:i=id
  ·subst e
   simp only[PHeap.set,if_true,Option.some.injEq] at hbd
   subst hbd
   cases hb with
   | @row _ _ _ cs0 _ h=>
    obtain⟨vals,ho,hc,h1⟩:=hh.row i t k m cs0 (by simp[PHeap.set])
    exact⟨vals,ho,h.rpL (trL hc),h1⟩
  ·have:(H.set id ⟨ver,some bd⟩ i).body=some (.row t k m cs):=by simpa [PHeap.set,e] using hbd
   obtain⟨vals,ho,hc,h1⟩:=hh.row i t k m cs this
   exact⟨vals,ho,trL hc,h1⟩
 ·by_cases e:i=id
  ·subst e
   simp only[PHeap.set,if_true,Option.some.injEq] at hbd
   subst hbd
   cases hb with
   | @box _ cs0 _ h=>
    obtain⟨g,arr,e1,e2,e3,hc,h1⟩:=hh.box i t cs0 (by simp[PHeap.set])
    exact⟨g,arr,e1,e2,e3,h.rpL (trL hc),h1⟩
  ·have:(H.set id ⟨ver,some bd⟩ i).body=some (.box t cs):=by simpa [PHeap.set,e] using hbd
   obtain⟨g,arr,e1,e2,e3,hc,h1⟩:=hh.box i t cs this
   exact⟨g,arr,e1,e2,e3,trL hc,h1⟩
 ·by_cases e:i=id
  ·subst e
   simp only[PHeap.set,if_true,Option.some.injEq] at hbd
   subst hbd
   cases hb
  ·have:(H.set id ⟨ver,some bd⟩ i).body=some (.raw p cs φ):=by simpa [PHeap.set,e] using hbd
   obtain⟨g,o,vs,e1,e2,e3,h1,hc⟩:=hh.map i p cs φ this
   exact⟨g,o,vs,e1,e2,e3,h1,trL hc⟩
theorem PE.weakB {p0 q0:PV} {id ver:Nat} {bd bd':PBody} (hb:BRef bd bd') (hp:Ref p0 q0) (hd:jn n o) (h:PE P W n o F H (fun p H'=>p=p0∧H'=H.set id ⟨ver,some bd⟩)):PE P W n o F H (fun p H'=>p=q0∧H'=H.set id ⟨ver,some bd'⟩):=fun V a w hr=>
 Oper.wp_mono (fun a' w' ⟨p,H',V',⟨e1,e2⟩,hr'⟩=>by
  subst e1;subst e2
  have:=Rel.weakB hb hr'
  refine⟨q0,_,V',⟨rfl,rfl⟩,this.heap,this.size,this.defers,fun t=>?_⟩
  have hs:=this.slot t
  unfold PFrame.put at hs ⊢
  split
  ·rename_i e;rw[if_pos e] at hs;exact hp _ _ _ _ _ hs
  ·rename_i e;rw[if_neg e] at hs;exact hs) (h V a w hr)
theorem PQ.weakF {F':PFrame} {p:PV} (h:PQ P W o F' H p) (hr:∀ t,Operand.tmp t∈o.op.operands→Ref (F t) (F' t)):PQ P W o F H p:=fun V a w hh hs=>
 h V a w hh fun t ht=>hr t ht _ _ _ _ _ (hs t ht)
def zp8 (ty:Ty) (E:EF) (F:PFrame):PFrame:=fun t=>match toT ty (E t) with
 | some v=>enc ty v
 | none=>F t
theorem zx0 {ty:Ty} (hag:Agr o E G rd F H):∀ t,Operand.tmp t∈o.op.operands→Ref (F t) (zp8 ty E F t):=fun t ht=>by
 unfold zp8
 split
 ·rename_i v hv
  rw[hag.f t ht]
  exact(Za _ _ _ hv).2
 ·exact Ref.refl _
def zrr (ty:Ty) (E:EF):Operand→Option ty.D
 | .tmp t=>toT ty (E t)
 | _=>none
theorem zha {ty:Ty} {x:Operand} {v:ty.D} (h:zrr ty E x=some v):evP (zp8 ty E F) x=enc ty v:=by
 unfold zrr at h
 split at h
 ·simp only[evP,zp8,h]
 ·cases h
def ze3:(t:Ty)→t.D→Option (List Value)
 | .int k,z=>some [.int k z]
 | .bool,b=>some [.bool b]
 | .str,s=>some [.string ⟨⟨s⟩⟩]
 | .nil,_=>some []
 | .cons a r,x=>match ze3 a x.1 with
  | none=>none
  | some l=>match ze3 r x.2 with
   | none=>none
   | some m=>some (l++m)
 | .st r,x=>ze3 r x
 | _,_=>none
theorem zgj:∀(t:Ty) (x:t.D) (l:List Value),ze3 t x=some l→encC t x=l.map .u
 | .int _,_,l,h=>by simp only[ze3] at h;cases h;rfl
 | .bool,_,l,h=>by simp only[ze3] at h;cases h;rfl
 | .str,_,l,h=>by simp only[ze3] at h;cases h;rfl
 | .nil,_,l,h=>by simp only[ze3] at h;cases h;rfl
 | .cons a r,x,l,h=>by
  simp only[ze3] at h
  split at h<;>try (cases h;done)
  rename_i l1 h1
  split at h<;>cases h
  rename_i l2 h2
  simp only[encC,zgj a _ _ h1,zgj r _ _ h2,List.map_append]
 | .st r,x,l,h=>by simp only[ze3] at h;simp only[encC];exact zgj r x l h
 | .sl _,_,l,h=>by simp[ze3] at h
 | .ref _,_,l,h=>by simp[ze3] at h
 | .arr _ _,_,l,h=>by simp[ze3] at h
 | .tup _,_,l,h=>by simp[ze3] at h
def z21 (l:List Bool):Bool:=l.all fun b=>b
def jbs (op:BinOp) (b:Bool):Option Bool:=match op with
 | .eql=>some b
 | .neq=>some (!b)
 | _=>none
def sEqS (bd:Bool) (es:Array Value→Array Value→Option (List Bool)) (gt:Bool) (op:BinOp) (r:Ty) (E:EF) (x y:Operand):Option SR:=match gt with
 | true=>none
 | false=>qp (zrr (.st r) E x) fun a=>qp (zrr (.st r) E y) fun b=>qp (ze3 (.st r) a) fun xs=>qp (ze3 (.st r) b) fun ys=>qp (es xs.toArray ys.toArray) fun l=>qp (jbs op (z21 l)) fun c=>some (.vx bd .bool c)
theorem za5 (l:List Value):(l.map PV.u).mapM zr4=some l:=by
 induction l with
 | nil=>rfl
 | cons v l ih=>rw[List.map_cons,List.mapM_cons,ih];rfl
theorem jal {bd:Bool} {op:BinOp} {r:Ty} {t t':Nat} {x y:Operand} {q:SR} {d:Tmp} (ho:o.op = .binOp op t x y t') (h:sEqS bd (eqS P t) (P.eqGuardType P.depth t) op r E x y=some q):SOk P o E G q:=by
 unfold sEqS at h
 split at h
 ·cases h
 rename_i hg
 obtain⟨a,ha,h⟩:=jm h
 obtain⟨b,hb,h⟩:=jm h
 obtain⟨xs,hxs,h⟩:=jm h
 obtain⟨ys,hys,h⟩:=jm h
 obtain⟨l,hl,h⟩:=jm h
 obtain⟨c,hc,h⟩:=jm h
 cases h
 refine SOk.vx fun W F H hag=>?_
 refine PQ.weakF (F':=zp8 (.st r) E F) (PQ.of_run fun V ac w hw hh=>?_) (zx0 hag)
 have e1:evP (zp8 (.st r) E F) x = .agg (xs.map .u):=by rw[zha ha];unfold enc mkV;simp only[Jq];rw[zgj _ _ _ hxs]
 have e2:evP (zp8 (.st r) E F) y = .agg (ys.map .u):=by rw[zha hb];unfold enc mkV;simp only[Jq];rw[zgj _ _ _ hys]
 have h1:=(hh x (by rw[ho];simp[Op.operands])).val2 (u := .agg xs.toArray) (by rw[e1];simp only[PV.val2,za5];rfl)
 have h2:=(hh y (by rw[ho];simp[Op.operands])).val2 (u := .agg ys.toArray) (by rw[e2];simp only[PV.val2,za5];rfl)
 have h4:(Op.equal t (.agg xs.toArray) (.agg ys.toArray)).run P w = .ok (l.all id) w:=z20 hl w 9998
 have e3:z21 l=l.all id:=rfl
 unfold jbs at hc
 split at hc<;>cases hc
 ·have h3:=run_eqGuard_agg (P:=P) (w:=w) .eql t x y xs.toArray ys.toArray hg
  exact⟨_,by simp only[execOp,ho,h1,h2];simp[Sem.run_bind,h3,binOp,h4];rfl, .u _⟩
 ·have h3:=run_eqGuard_agg (P:=P) (w:=w) .neq t x y xs.toArray ys.toArray hg
  exact⟨_,by simp only[execOp,ho,h1,h2];simp[Sem.run_bind,h3,binOp,h4];rfl, .u _⟩
def sEqA (bd:Bool) (gt:Bool) (op:BinOp) (n:Nat) (k:IntKind) (E:EF) (x y:Operand):Option SR:=match gt with
 | true=>none
 | false=>qp (zrr (.arr n (.int k)) E x) fun a=>qp (zrr (.arr n (.int k)) E y) fun b=>qp (jbs op (a.l == b.l)) fun c=>some (.vx bd .bool c)
theorem znn (k:IntKind):∀ l:List Int,l.flatMap (encC (.int k))=(l.map (Value.int k)).map .u
 | []=>rfl
 | a :: l=>by rw[List.flatMap_cons,znn k l];rfl
theorem jbj {bd:Bool} {op:BinOp} {e n:Nat} {k:IntKind} {t t':Nat} {x y:Operand} {q:SR} (ho:o.op = .binOp op t x y t') (hu:P.underlying t=some (.array n e)) (hD:P.underlying e=some (.int k)) (hs:asz P e=some (false,1)) (h:sEqA bd (P.eqGuardType P.depth t) op n k E x y=some q):SOk P o E G q:=by
 unfold sEqA at h
 split at h
 ·cases h
 rename_i hg
 obtain⟨a,ha,h⟩:=jm h
 obtain⟨b,hb,h⟩:=jm h
 obtain⟨c,hc,h⟩:=jm h
 cases h
 refine SOk.vx fun W F H hag=>?_
 refine PQ.weakF (F':=zp8 (.arr n (.int k)) E F) (PQ.of_run fun V ac w hw hh=>?_) (zx0 hag)
 have e1:evP (zp8 (.arr n (.int k)) E F) x = .agg ((a.l.map (Value.int k)).map .u):=by rw[zha ha];unfold enc mkV;simp only[Jq];show PV.agg (List.flatMap (encC (.int k)) _)=_;rw[znn]
 have e2:evP (zp8 (.arr n (.int k)) E F) y = .agg ((b.l.map (Value.int k)).map .u):=by rw[zha hb];unfold enc mkV;simp only[Jq];show PV.agg (List.flatMap (encC (.int k)) _)=_;rw[znn]
 have h1:=(hh x (by rw[ho];simp[Op.operands])).val2 (u := .agg (a.l.map (Value.int k)).toArray) (by rw[e1];simp only[PV.val2,za5];rfl)
 have h2:=(hh y (by rw[ho];simp[Op.operands])).val2 (u := .agg (b.l.map (Value.int k)).toArray) (by rw[e2];simp only[PV.val2,za5];rfl)
 have h4:=z6b hu hD (fun w=>(zdx hs w).2) ⟨a.l,a.h⟩ ⟨b.l,b.h⟩ w
 simp only at h4
 unfold jbs at hc
 split at hc<;>cases hc
 ·have h3:=run_eqGuard_agg (P:=P) (w:=w) .eql t x y (a.l.map (Value.int k)).toArray (b.l.map (Value.int k)).toArray hg
  exact⟨_,by simp only[execOp,ho,h1,h2];simp[Sem.run_bind,h3,binOp,h4], .u _⟩
 ·have h3:=run_eqGuard_agg (P:=P) (w:=w) .neq t x y (a.l.map (Value.int k)).toArray (b.l.map (Value.int k)).toArray hg
  exact⟨_,by simp only[execOp,ho,h1,h2];simp[Sem.run_bind,h3,binOp,h4], .u _⟩
theorem z5v {t:Array TypeId} {ty:TypeId} {k:IntKind} {a b:Int}:ztl P .min t ty [.u (.int k a), .u (.int k b)]=some (.u (.int k (min a b))):=by
 simp[ztl,PV.val2,Builtin.min_,Builtin.min2,j7,ofV]
 split<;>omega
theorem z6s {t:Array TypeId} {ty:TypeId} {k:IntKind} {a b:Int}:ztl P .max t ty [.u (.int k a), .u (.int k b)]=some (.u (.int k (max a b))):=by
 simp[ztl,PV.val2,Builtin.max_,Builtin.max2,j7,ofV]
 split<;>omega
def jb5 (bd:Bool) (mx:Bool) (x y:TS):Option SR:=match x with
 | .v ⟨.int k,a⟩=>qp (Qm (.int k) y) fun b=>some (.vx bd (.int k) (cond mx (max a b) (min a b)))
 | .c (.int k a)=>qp (Qm (.int k) y) fun b=>some (.vx bd (.int k) (cond mx (max a b) (min a b)))
 | _=>none
theorem z2r {bd mx:Bool} {x y:Operand} {ts:Array TypeId} {q:SR} (ho:o.op = .call { callee := .builtin (cond mx .max .min),args:=#[x,y],argTypes:=ts }) (h:jb5 bd mx (evE E x) (evE E y)=some q):SOk P o E G q:=by
 have hx':x∈o.op.operands:=by rw[ho];simp[Op.operands,Call.operands]
 have hy':y∈o.op.operands:=by rw[ho];simp[Op.operands,Call.operands]
 have key:∀ {k:IntKind} {a b:Int},(evE E x).den = .u (.int k a)→Qm (.int k) (evE E y)=some b→SOk P o E G (.vx bd (.int k) (cond mx (max a b) (min a b))):=fun {k a b} h1 h2=>by
  refine SOk.vx fun W F H hag=>jc ?_
  unfold jp;rw[ho]
  have e1:=hag.ev hx'
  have e2:=hag.ev hy'
  rw[h1] at e1
  rw[yd h2] at e2
  cases mx with
  | true=>
   show ztl P .max ts o.type [evP F x,evP F y]=_
   rw[e1,e2]
   exact z6s
  | false=>
   show ztl P .min ts o.type [evP F x,evP F y]=_
   rw[e1,e2]
   exact z5v
 unfold jb5 at h
 split at h
 ·rename_i k a hx
  obtain⟨b,hb,h⟩:=jm h
  cases h
  exact key (by rw[hx];simp only[TS.den];rfl) hb
 ·rename_i k a hx
  obtain⟨b,hb,h⟩:=jm h
  cases h
  exact key (by rw[hx];simp only[TS.den];rfl) hb
 ·cases h
end
end Go.Proofs.YtdllbdlnmjngcaaGreat.T

namespace Go.Proofs.YtdllbdlnmjngcaaGreat.T
open Go Go.RowKit L
set_option linter.unusedVariables false
set_option linter.unusedSimpArgs false
def SR.mem (s:TS) (id:Nat) (x:GB) (rd:List Nat):SR:=⟨Unit,true,some (),fun _=>s,fun _=>[(id,x)],rd,[id]⟩
def SR.memO (α:Type) (op:Option α) (s:TS) (id:Nat) (x:α→GB) (rd:List Nat):SR:=⟨α,false,op,fun _=>s,fun y=>[(id,x y)],rd,[id]⟩
section
variable {P : Program} {o : Oper} {E : EF} {G : EG} {rd : List Nat} {F : PFrame} {H : PHeap} {W : Env} {n : Nat}
theorem SOk.mem {s:TS} {id:Nat} {x:GB} (h:∀ W n F H,jn n o→Agr o E G (id :: rd) F H→PE P W n o F H (fun p H'=>p=s.den∧H'=H.set (2*id) (j8 x))):SOk P o E G (.mem s id x rd):=
 ⟨fun _=>rfl,fun y hy W n F H hfl hd hF hH=>h W n F H hd ⟨hF,fun i hi=>by
  rcases List.mem_cons.1 hi with rfl | hi
  ·exact hH i (.inr (by simp[SR.mem]))
  ·exact hH i (.inl hi)⟩⟩
theorem SOk.memO {α:Type} {op:Option α} {s:TS} {id:Nat} {x:α→GB} (h:∀ y,op=some y→∀ W n F H,jn n o→Agr o E G (id :: rd) F H→PE P W n o F H (fun p H'=>p=s.den∧H'=H.set (2*id) (j8 (x y)))):SOk P o E G (.memO α op s id x rd):=
 ⟨fun _=>rfl,fun y hy W n F H hfl hd hF hH=>h y hy W n F H hd ⟨hF,fun i hi=>by
  rcases List.mem_cons.1 hi with rfl | hi
  ·exact hH i (.inr (by simp[SR.memO]))
  ·exact hH i (.inl hi)⟩⟩
def nv (G:EG) (id:Nat):Nat:=(G id).ver+1
theorem zob {id:Nat} (hag:Agr o E G (id :: rd) F H):(H (2*id)).ver+1=nv G id:=by rw[hag.h id (by simp)];rfl
def Jy (o:Oper):Bool:=match o.dst with
 | some _=>true
 | none=>false
theorem zm {o:Oper} (h:Jy o=true):∃ d,o.dst=some d:=by
 unfold Jy at h
 split at h
 ·exact⟨_,by assumption⟩
 ·cases h
def zzq (zt:ZT) (t:TypeId) (o:Oper) (G:EG) (id:Nat):Option SR:=match Jy o with
 | true=>match zt t with
  | some xs=>some (.mem (.pt id 0 (nv G id)) id ⟨nv G id,some (.box t xs)⟩ [])
  | none=>none
 | false=>none
theorem z43 {zt:ZT} (hzt:zdl P zt) {t:TypeId} {id:Nat} {q:SR} (ho:o.op = .alloc t) (h:zzq zt t o G id=some q):SOk P o E G q:=by
 unfold zzq at h
 split at h<;>try (cases h;done)
 rename_i hd
 obtain⟨d,hd⟩:=zm hd
 split at h<;>cases h
 rename_i xs hxs
 obtain⟨us,hu1,hu2,hu3⟩:=hzt t xs hxs
 refine SOk.mem fun W n F H hdo hag=>?_
 refine PE.weakB (p0 := .pp (2*id) 0 (nv G id)) (.box hu3) (by simp only[TS.den];exact Ref.refl _) hdo (PE.alloc (id:=2*id) ho hd (hdo d hd) hu1 hu2 ?_)
 rw[zob hag];exact⟨rfl,rfl⟩
def sBox (t:TypeId) (o:Oper) (G:EG) (id:Nat) (x:TS):Option SR:=match Jy o && okT G x with
 | true=>some (.mem (.pt id 0 (nv G id)) id ⟨nv G id,some (.box t [x])⟩ (ze6 x))
 | false=>none
theorem jb0 {t:TypeId} {x:Operand} {id:Nat} {q:SR} (ho:o.op = .box t x) (h:sBox t o G id (evE E x)=some q):SOk P o E G q:=by
 have hx':x∈o.op.operands:=by rw[ho];simp[Op.operands]
 unfold sBox at h
 split at h<;>cases h
 rename_i hc
 simp only[Bool.and_eq_true] at hc
 obtain⟨d,hd⟩:=zm hc.1
 refine SOk.mem fun W n F H hdo hag=>?_
 have hev:=hag.ev hx'
 refine PE.box (id:=2*id) ho hd (hdo d hd) (by rw[hev];exact zct hc.2 fun i hi=>hag.h i (by simp[hi])) ?_
 rw[zob hag,hev]
 refine⟨by simp only[TS.den],?_⟩
 simp only[j8,Option.map_some,BD.den,jq,List.append_nil]
def Zg {α:Type} (l:List α) (i:Int) (y:α):Option (List α):=match decide (0≤i) with
 | true=>match decide (i.toNat<l.length) with
  | true=>some (l.set i.toNat y)
  | false=>none
 | false=>none
def z9t:List TS→Nat→TS→Option (List TS)
 | [],_,_=>none
 | x :: xs,off,s=>match Nat.blt off (Qu x) with
  | true=>some (s :: xs)
  | false=>match z9t xs (off-Qu x) s with
   | some ys=>some (x :: ys)
   | none=>none
def zqw {n:Nat} {α:Type} (a:Arr n α) (i:Int) (y:α):Option (Arr n α):=match decide (0≤i) with
 | true=>match decide (i.toNat<n) with
  | true=>some ⟨a.l.set i.toNat y,by rw[List.length_set,a.h]⟩
  | false=>none
 | false=>none
def sSto (ag:Bool) (k:Nat) (G:EG) (x y:TS):Option SR:=match okT G y with
 | false=>none
 | true=>match x with
  | .pt id off ver=>match Nat.beq (G id).ver ver with
   | true=>match (G id).b with
    | some (.box tid xs)=>match zk8 off k y xs with
     | some ys=>some (.mem UND id ⟨ver,some (.box tid ys)⟩ (ze6 y))
     | none=>none
    | some (.rowx tid w xs)=>match zk8 off k y xs with
     | some ys=>match Nat.beq ys.length xs.length with
      | true=>some (.mem UND id ⟨ver,some (.rowx tid w ys)⟩ (ze6 y))
      | false=>none
     | none=>none
    | _=>none
   | false=>none
  | .elt id w i off ver=>match Nat.beq (G id).ver ver with
   | true=>match (G id).b with
    | some (.row tid t l)=>match Nat.beq w (wid t) && (Nat.beq off 0 && Nat.beq k w) with
     | true=>match toT t y with
      | some v=>some (.memO (List t.D) (Zg l i v) UND id (fun l'=>⟨ver,some (.row tid t l')⟩) (ze6 y))
      | none=>none
     | false=>none
    | some (.box tid xs)=>match zhy xs off with
     | some (.v ⟨.arr n t,a⟩,off')=>match Nat.beq w (wid t) && (Nat.beq off' 0 && Nat.beq k w) with
      | true=>match toT t y with
       | some v=>some (.memO (Arr n t.D) (zqw a i v) UND id (fun a'=>⟨ver,(z9t xs off (.v ⟨.arr n t,a'⟩)).map fun ys => .box tid ys⟩) (ze6 y))
       | none=>none
      | false=>none
     | _=>none
    | _=>none
   | false=>none
  | _=>none
theorem und_den:UND.den = .u undef:=by simp only[UND,TS.den];rfl
theorem zj9 {pre mid post ps:List PV} {j:Nat} (h:j+ps.length≤mid.length):setMany (pre++mid++post) (pre.length+j) ps=pre++setMany mid j ps++post:=by
 unfold setMany
 rw[List.append_assoc pre mid post,List.take_length_add_append,show pre.length+j+ps.length=pre.length+(j+ps.length) by omega,List.drop_length_add_append,List.take_append_of_le_length (by omega),List.drop_append_of_le_length h]
 simp only[List.append_assoc]
theorem zw8 {t:Ty} {l:List t.D} {i:Nat} {y:t.D} (h:i<l.length):setMany (l.flatMap (encC t)) (i*wid t) (encC t y)=(l.set i y).flatMap (encC t):=by
 have hl:l=l.take i++l[i] :: l.drop (i+1):=by simp
 have e1:l.flatMap (encC t)=(l.take i).flatMap (encC t)++encC t l[i]++(l.drop (i+1)).flatMap (encC t):=by
  conv=>lhs;rw[hl]
  simp only[List.flatMap_append,List.flatMap_cons,List.append_assoc]
 have e2:(l.set i y).flatMap (encC t)=(l.take i).flatMap (encC t)++encC t y++(l.drop (i+1)).flatMap (encC t):=by
  rw[List.set_eq_take_append_cons_drop,if_pos h]
  simp only[List.flatMap_append,List.flatMap_cons,List.append_assoc]
 have e3:((l.take i).flatMap (encC t)).length=i*wid t:=by
  rw[zh _ (wid t) _ fun x _=>jr t x,List.length_take]
  congr 1;omega
 rw[e1,e2,← e3]
 have:=zj9 (pre:=(l.take i).flatMap (encC t)) (mid:=encC t l[i]) (post:=(l.drop (i+1)).flatMap (encC t)) (ps:=encC t y) (j:=0) (by rw[jr,jr];omega)
 simp only[Nat.add_zero] at this
 rw[this]
 congr 2
 unfold setMany
 simp only[List.take_zero,List.nil_append,Nat.zero_add]
 rw[List.drop_eq_nil_of_le (by rw[jr,jr];exact Nat.le_refl _),List.append_nil]
theorem RefL.setMany2 {ps qs:List PV} (h:RefL ps qs) (cs:List PV) (off:Nat):RefL (L.setMany cs off ps) (L.setMany cs off qs):=by
 unfold L.setMany
 rw[h.1]
 exact RefL.append (RefL.append (RefL.refl _) h) (RefL.refl _)
theorem z40 {α:Type} {l l':List α} {i:Int} {y:α} (h:Zg l i y=some l'):i.toNat<l.length∧l'=l.set i.toNat y:=by
 unfold Zg at h
 split at h<;>try (cases h;done)
 split at h<;>cases h
 rename_i h1
 exact⟨of_decide_eq_true h1,rfl⟩
theorem z4h {n:Nat} {α:Type} {a a':Arr n α} {i:Int} {y:α} (h:zqw a i y=some a'):i.toNat<n∧a'.l=a.l.set i.toNat y:=by
 unfold zqw at h
 split at h<;>try (cases h;done)
 split at h<;>cases h
 rename_i h1
 exact⟨of_decide_eq_true h1,rfl⟩
theorem z1w:∀ {xs:List TS} {off:Nat} {p s:TS},zhy xs off=some (p,0)→Qu s=Qu p→∃ ys pre post,z9t xs off s=some ys∧jq xs=pre++p.den.cells++post∧jq ys=pre++s.den.cells++post∧pre.length=off
 | [],off,p,s,h,_=>by simp[zhy] at h
 | x :: xs,off,p,s,h,hw=>by
  simp only[zhy] at h
  simp only[z9t]
  split at h
  ·rename_i hb
   cases h
   exact⟨s :: xs,[],jq xs,by first | (rw[hb];done) | rfl,by simp only[jq,List.nil_append],by simp only[jq,List.nil_append],rfl⟩
  ·rename_i hb
   obtain⟨ys,pre,post,h1,h2,h3,h4⟩:=z1w (s:=s) h hw
   have:¬ off<Qu x:=by
    intro hlt
    have:Nat.blt off (Qu x)=true:=by simpa [Nat.blt_eq] using hlt
    rw[hb] at this;cases this
   refine⟨x :: ys,x.den.cells++pre,post,by first | (rw[hb,h1];done) | (rw[h1];done) | simp[h1],by simp only[jq,h2,List.append_assoc],by simp only[jq,h3,List.append_assoc],?_⟩
   rw[List.length_append,zer];omega
theorem jat {t k:Nat} {ag:Bool} {x y:Operand} {q:SR} (ho:o.op = .store t x y) (ht:asz P t=some (ag,k)) (h:sSto ag k G (evE E x) (evE E y)=some q):SOk P o E G q:=by
 have hx':x∈o.op.operands:=by rw[ho];simp[Op.operands]
 have hy':y∈o.op.operands:=by rw[ho];simp[Op.operands]
 unfold sSto at h
 split at h
 ·cases h
 rename_i hok
 have ru:∀ {W n F H} {id ver:Nat} {bd:PBody} {x:GB},(j8 x) = ⟨ver,some bd⟩→PE P W n o F H (fun p H'=>p = .u undef∧H'=H.set (2*id) ⟨ver,some bd⟩)→PE P W n o F H (fun p H'=>p=UND.den∧H'=H.set (2*id) (j8 x)):=fun {W n F H id ver bd x} e hpe=>by
  rw[e,und_den];exact hpe
 split at h
 ·rename_i id off ver hx
  split at h<;>try (cases h;done)
  rename_i hv
  have hv:=Nat.eq_of_beq_eq_true hv
  split at h<;>try (cases h;done)
  ·rename_i tid xs hb
   split at h<;>cases h
   rename_i ys hys
   obtain⟨e1,e2,e3⟩:=ztg hys
   refine SOk.mem fun W n F H hdo hag=>ru (bd := .box tid (jq ys)) rfl ?_
   have hH:=hag.h id (by simp)
   have hyv:=hag.ev hy'
   refine PE.store (id:=2*id) (off:=off) (ver:=ver) (cs:=jq xs) (bd := .box tid (jq xs)) ho hdo (by rw[hag.ev hx',hx];simp only[TS.den]) (y0 hH hb hv) ht (by rw[hyv];exact zct hok fun i hi=>hag.h i (by simp[hi])) (by rw[hyv];exact e3) e2 (by rw[hH];simp[j8,hb,BD.den]) ⟨rfl,?_⟩
   rw[hyv,e1];rfl
  ·rename_i tid w xs hb
   split at h<;>try (cases h;done)
   rename_i ys hys
   split at h<;>cases h
   rename_i hlen
   have hlen:=Nat.eq_of_beq_eq_true hlen
   obtain⟨e1,e2,e3⟩:=ztg hys
   refine SOk.mem fun W n F H hdo hag=>ru (bd := .row tid w ys.length (jq ys)) rfl ?_
   have hH:=hag.h id (by simp)
   have hyv:=hag.ev hy'
   refine PE.store (id:=2*id) (off:=off) (ver:=ver) (cs:=jq xs) (bd := .row tid w xs.length (jq xs)) ho hdo (by rw[hag.ev hx',hx];simp only[TS.den]) (Ja hH hb rfl hv) ht (by rw[hyv];exact zct hok fun i hi=>hag.h i (by simp[hi])) (by rw[hyv];exact e3) e2 (by rw[hH];simp[j8,hb,BD.den]) ⟨rfl,?_⟩
   rw[hyv,e1,hlen];rfl
 ·rename_i id w i off ver hx
  split at h<;>try (cases h;done)
  rename_i hv
  have hv:=Nat.eq_of_beq_eq_true hv
  split at h<;>try (cases h;done)
  ·rename_i tid ty l hb
   split at h
   ·rename_i hc
    simp only[Bool.and_eq_true] at hc
    have ew:=Nat.eq_of_beq_eq_true hc.1
    have eo:=Nat.eq_of_beq_eq_true hc.2.1
    have ek:=Nat.eq_of_beq_eq_true hc.2.2
    split at h<;>cases h
    rename_i v hv2
    subst eo
    refine SOk.memO fun l' hl' W n F H hdo hag=>?_
    obtain⟨hi,rfl⟩:=z40 hl'
    have hH:=hag.h id (by simp)
    have hyv:=hag.ev hy'
    have hT:=(Za _ _ _ hv2).1
    have hlenl:(l.flatMap (encC ty)).length=l.length*wid ty:=zh _ _ _ fun x _=>jr ty x
    have hyl:(evE E y).den.cells.length=k:=by rw[hT.1,jr,ek,ew]
    refine PE.weakB (bd := .row tid (wid ty) l.length (setMany (l.flatMap (encC ty)) (i.toNat*wid ty) (evE E y).den.cells)) (bd' := .row tid (wid ty) (l.set i.toNat v).length ((l.set i.toNat v).flatMap (encC ty))) (by rw[← zw8 hi,List.length_set];exact .row (hT.setMany2 _ _)) (by rw[und_den];exact Ref.refl _) hdo ?_
    refine PE.store (id:=2*id) (off:=i.toNat*w+0) (ver:=ver) (cs:=l.flatMap (encC ty)) (bd := .row tid (wid ty) l.length (l.flatMap (encC ty))) ho hdo (by rw[hag.ev hx',hx];simp only[TS.den]) (Ja hH hb rfl hv) ht (by rw[hyv];exact zct hok fun i hi=>hag.h i (by simp[hi])) (by rw[hyv];exact hyl) ?_ (by rw[hH];simp[j8,hb,BD.den]) ⟨rfl,?_⟩
    ·rw[hlenl,ek,ew,Nat.add_zero]
     have:(i.toNat+1)*wid ty≤l.length*wid ty:=Nat.mul_le_mul_right _ hi
     rwa [Nat.succ_mul] at this
    ·rw[hyv,Nat.add_zero,ew];rfl
   ·cases h
  ·rename_i tid xs hb
   split at h<;>try (cases h;done)
   rename_i m ty a off' har
   split at h<;>try (cases h;done)
   rename_i hc
   simp only[Bool.and_eq_true] at hc
   have ew:=Nat.eq_of_beq_eq_true hc.1
   have eo:=Nat.eq_of_beq_eq_true hc.2.1
   have ek:=Nat.eq_of_beq_eq_true hc.2.2
   split at h<;>cases h
   rename_i v hv2
   subst eo
   refine SOk.memO fun a' ha' W n F H hdo hag=>?_
   obtain⟨hi,hal⟩:=z4h ha'
   obtain⟨ys,pre,post,p1,p2,p3,p4⟩:=z1w (s := .v ⟨.arr m ty,a'⟩) har (by simp only[Qu])
   have hH:=hag.h id (by simp)
   have hyv:=hag.ev hy'
   have hT:=(Za _ _ _ hv2).1
   have hyl:(evE E y).den.cells.length=k:=by rw[hT.1,jr,ek,ew]
   simp only[TS.den,enc_cells,encC] at p2 p3
   have hlenl:(a.l.flatMap (encC ty)).length=m*wid ty:=by rw[zh _ (wid ty) _ fun x _=>jr ty x,a.h]
   have hile:(i.toNat*wid ty)+wid ty≤m*wid ty:=by
    have:(i.toNat+1)*wid ty≤m*wid ty:=Nat.mul_le_mul_right _ hi
    rwa [Nat.succ_mul] at this
   have e5:setMany (jq xs) (off+i.toNat*wid ty) (evE E y).den.cells=pre++setMany (a.l.flatMap (encC ty)) (i.toNat*wid ty) (evE E y).den.cells++post:=by
    rw[p2,← p4,zj9]
    rw[hlenl,hyl,ek,ew];exact hile
   rw[p1]
   refine PE.weakB (bd := .box tid (setMany (jq xs) (off+i.toNat*wid ty) (evE E y).den.cells)) (bd' := .box tid (jq ys)) (.box ?_) (by rw[und_den];exact Ref.refl _) hdo ?_
   ·rw[e5,p3,hal,← zw8 (by rw[a.h];exact hi)]
    exact RefL.append (RefL.append (RefL.refl _) (hT.setMany2 _ _)) (RefL.refl _)
   refine PE.store (id:=2*id) (off:=i.toNat*w+off) (ver:=ver) (cs:=jq xs) (bd := .box tid (jq xs)) ho hdo (by rw[hag.ev hx',hx];simp only[TS.den]) (y0 hH hb hv) ht (by rw[hyv];exact zct hok fun i hi=>hag.h i (by simp[hi])) (by rw[hyv];exact hyl) ?_ (by rw[hH];simp[j8,hb,BD.den]) ⟨rfl,?_⟩
   ·rw[p2];simp only[List.length_append,hlenl,ek,ew];omega
   ·rw[hyv,ew,Nat.add_comm];rfl
 ·cases h
end
end Go.Proofs.YtdllbdlnmjngcaaGreat.T

namespace Go.Proofs.YtdllbdlnmjngcaaGreat.T
open Go Go.RowKit L
set_option linter.unusedVariables false
set_option linter.unusedSimpArgs false
def apO {α:Type} (b:Nat) (l m:List α):Option (List α):=match decide (l.length+m.length≤maxLen) && decide ((l.length+m.length)*b≤140737488355328) with
 | true=>some (l++m)
 | false=>none
theorem zo5 {α:Type} {b:Nat} {l m r:List α} (h:apO b l m=some r):l.length+m.length≤maxLen∧(l.length+m.length)*b≤140737488355328∧r=l++m:=by
 unfold apO at h
 split at h<;>cases h
 rename_i h1
 simp only[Bool.and_eq_true,decide_eq_true_eq] at h1
 exact⟨h1.1,h1.2,rfl⟩
def mkO (b:Nat) (z:Int):Option Nat:=match decide (0≤z) && (decide (z.toNat≤maxLen) && decide (b*z.toNat≤281474976710656)) with
 | true=>some z.toNat
 | false=>none
theorem z75 {b:Nat} {z:Int} {m:Nat} (h:mkO b z=some m):z=(m:Int)∧m≤maxLen∧b*m≤281474976710656:=by
 unfold mkO at h
 split at h<;>cases h
 rename_i h1
 simp only[Bool.and_eq_true,decide_eq_true_eq] at h1
 exact⟨by omega,h1.2.1,h1.2.2⟩
def z9g (ty:Ty) (G:EG):TS→Option (List ty.D×List Nat)
 | .v d=>match d.as (.sl ty) with
  | some l=>some (l,[])
  | none=>none
 | .own id ver=>match Nat.beq (G id).ver ver with
  | true=>match (G id).b with
   | some (.row _ t l)=>match Dyn.as ⟨.sl t,l⟩ (.sl ty) with
    | some l=>some (l,[id])
    | none=>none
   | _=>none
  | false=>none
 | .c (.slice none 0 0)=>some ([],[])
 | _=>none
abbrev SE:=Option (TypeId×Nat×Nat×Value)
def tyRow (G:EG):TS→Option Ty
 | .v ⟨.sl t,_⟩=>some t
 | .own id _=>match (G id).b with
  | some (.row _ t _)=>some t
  | _=>none
 | _=>none
def sApp (se:SE) (o:Oper) (G:EG) (nid:Nat) (s x:TS):Option SR:=match Jy o with
 | false=>none
 | true=>match se with
  | none=>none
  | some (e,k,b,_)=>match s with
   | .own id ver=>match Nat.beq (G id).ver ver with
    | true=>match (G id).b with
     | some (.row tid ty l)=>match Nat.beq tid e && (Nat.beq (wid ty) k && zav ty) with
      | true=>match z9g ty G x with
       | some r=>some (.memO (List ty.D) (apO b l r.1) (.own id (ver+1)) id (fun l'=>⟨ver+1,some (.row tid ty l')⟩) r.2)
       | none=>none
      | false=>none
     | _=>none
    | false=>none
   | .c (.slice none 0 0)=>match tyRow G x with
    | some ty=>match Nat.beq (wid ty) k && zav ty with
     | true=>match z9g ty G x with
      | some r=>some (.memO (List ty.D) (apO b [] r.1) (.own nid (nv G nid)) nid (fun l'=>⟨nv G nid,some (.row e ty l')⟩) r.2)
      | none=>none
     | false=>none
    | none=>none
   | _=>none
section
variable {P : Program} {o : Oper} {E : EF} {G : EG} {rd : List Nat} {F : PFrame} {H : PHeap} {W : Env} {n : Nat}
theorem zt9 {ty:Ty} {k:Nat} {s:TS} {r:List ty.D×List Nat} (h:z9g ty G s=some r) (hk:wid ty=k) (hH:∀ id∈r.2,H (2*id)=j8 (G id)):zd3 H k s.den=some (r.1.length,r.1.flatMap (encC ty)):=by
 unfold z9g at h
 split at h
 ·split at h<;>cases h
  rename_i d l hl
  have:=Dyn.as_eq hl
  subst this
  simp only[TS.den]
  rw[zge]
  unfold zd3
  simp only
  rw[if_pos hk,List.length_map,Va]
 ·rename_i id ver
  split at h<;>try (cases h;done)
  rename_i hv
  have hv:=Nat.eq_of_beq_eq_true hv
  split at h<;>try (cases h;done)
  rename_i tid t l hb
  split at h<;>cases h
  rename_i l' hl
  have:=Dyn.as_eq hl
  injection this with e1 e2
  injection e1 with e1
  subst e1
  have e2:=eq_of_heq e2
  subst e2
  simp only[TS.den]
  unfold zd3
  simp only
  rw[vc (hH id (by simp)) hb rfl hv]
  simp only
  rw[if_pos hk]
 ·cases h
  simp only[TS.den]
  rfl
 ·cases h
theorem zit {ty:Ty} (hn:zav ty=true) (l:List ty.D):∀ p∈l.flatMap (encC ty),qc H p=true:=fun p hp=>by
 obtain⟨x,_,hx⟩:=List.mem_flatMap.1 hp
 exact Z4 ty x H hn p hx
theorem z92 {t:Nat} {s x:Operand} {nid:Nat} {q:SR} (ho:o.op = .call { callee := .builtin .append,args:=#[s,x],argTypes:=#[t,t] }) (h:sApp (v7 P t) o G nid (evE E s) (evE E x)=some q):SOk P o E G q:=by
 have hs':s∈o.op.operands:=by rw[ho];simp[Op.operands,Call.operands]
 have hx':x∈o.op.operands:=by rw[ho];simp[Op.operands,Call.operands]
 unfold sApp at h
 split at h
 ·cases h
 rename_i hd
 obtain⟨d,hd⟩:=zm hd
 split at h
 ·cases h
 rename_i e k b z hse
 split at h
 ·rename_i id ver hs
  split at h<;>try (cases h;done)
  rename_i hv
  have hv:=Nat.eq_of_beq_eq_true hv
  split at h<;>try (cases h;done)
  rename_i tid ty l hb
  split at h<;>try (cases h;done)
  rename_i hc
  simp only[Bool.and_eq_true] at hc
  have e1:=Nat.eq_of_beq_eq_true hc.1
  have e2:=Nat.eq_of_beq_eq_true hc.2.1
  subst e1
  split at h<;>cases h
  rename_i r hr
  refine SOk.memO fun l' hl' W n F H hdo hag=>?_
  obtain⟨b1,b2,rfl⟩:=zo5 hl'
  have hsrc:=zt9 (H:=H) hr e2 fun i hi=>hag.h i (by simp[hi])
  refine PE.append (id:=2*id) (ver:=ver) (m:=l.length) (m2:=r.1.length) (cs:=l.flatMap (encC ty)) (cs2:=r.1.flatMap (encC ty)) ho hd (hdo d hd) hse (by rw[hag.ev hs',hs];simp only[TS.den]) ?_ (by rw[hag.ev hx'];exact hsrc) (zit hc.2.2 _) b1 b2 ?_
  ·rw[vc (hag.h id (by simp)) hb rfl hv,e2]
  ·refine⟨by simp only[TS.den],?_⟩
   simp only[j8,Option.map_some,BD.den,e2,List.length_append,List.flatMap_append]
 ·rename_i hs
  split at h<;>try (cases h;done)
  rename_i ty hty
  split at h<;>try (cases h;done)
  rename_i hc
  simp only[Bool.and_eq_true] at hc
  have e2:=Nat.eq_of_beq_eq_true hc.1
  split at h<;>cases h
  rename_i r hr
  refine SOk.memO fun l' hl' W n F H hdo hag=>?_
  obtain⟨b1,b2,rfl⟩:=zo5 hl'
  have hsrc:=zt9 (H:=H) hr e2 fun i hi=>hag.h i (by simp[hi])
  refine PE.appendNil (id:=2*nid) (m2:=r.1.length) (cs2:=r.1.flatMap (encC ty)) ho hd (hdo d hd) hse (by rw[hag.ev hs',hs];simp only[TS.den];rfl) (by rw[hag.ev hx'];exact hsrc) (zit hc.2 _) (by simpa using b1) (by simpa using b2) ?_
  rw[zob hag]
  refine⟨by simp only[TS.den],?_⟩
  simp only[j8,Option.map_some,BD.den,e2,List.nil_append]
 ·cases h
abbrev ZY:=TypeId→Option Dyn
def zyB (z:Value) (d:Dyn):Bool:=match d,z with
 | ⟨.int k,x⟩, .int k' y=>ikB k k' && decide (x=y)
 | ⟨.bool,x⟩, .bool y=>eqb x y
 | ⟨.str,[]⟩, .string y=>match y.data.toList with
  | []=>true
  | _=>false
 | ⟨.sl _,[]⟩, .slice none 0 0=>true
 | ⟨.ref _,none⟩, .pointer none=>true
 | _,_=>false
theorem z5i {z:Value} {d:Dyn} (h:zyB z d=true):Ref (.u z) (enc d.t d.x)∧wid d.t=1∧(enc d.t d.x).cells=[enc d.t d.x]∧z.oneCell'=true:=by
 unfold zyB at h
 split at h
 ·rename_i k x k' y
  simp only[Bool.and_eq_true] at h
  rw[ztx h.1,of_decide_eq_true h.2]
  exact⟨Ref.refl _,rfl,rfl,rfl⟩
 ·rename_i x y
  rw[z0a] at h
  have:x=y:=by simpa using h
  subst this
  exact⟨Ref.refl _,rfl,rfl,rfl⟩
 ·rename_i y
  split at h<;>try (cases h;done)
  rename_i hy
  have:y = ⟨⟨[]⟩⟩:=by
   obtain⟨⟨l⟩⟩:=y
   simp at hy;subst hy;rfl
  subst this
  exact⟨Ref.refl _,rfl,rfl,rfl⟩
 ·exact⟨Ref.nilS _ _ _,rfl,rfl,rfl⟩
 ·exact⟨Ref.refl _,rfl,rfl,rfl⟩
 ·cases h
def zvd:Operand→Operand→Bool
 | .tmp a, .tmp b=>Nat.beq a b
 | .const (.int _ a), .const (.int _ b)=>decide (a=b)
 | _,_=>false
def sMk (zy:ZY) (se:SE) (o:Oper) (G:EG) (nid:Nat) (same:Bool) (x:TS):Option SR:=match Jy o && same with
 | false=>none
 | true=>match se with
  | none=>none
  | some (e,k,b,z)=>match zy e with
   | none=>none
   | some d=>match Nat.beq k 1 && zyB z d with
    | true=>qp (zbc x) fun a=>some (.memO Nat (mkO b a) (.own nid (nv G nid)) nid (fun m=>⟨nv G nid,some (.row e d.t (List.replicate m d.x))⟩) [])
    | false=>none
theorem z3h {x y:Operand} (h:zvd x y=true) (hx:∃ k z,evP F x = .u (.int k z)):∃ k z,evP F x = .u (.int k z)∧∃ k',evP F y = .u (.int k' z):=by
 unfold zvd at h
 split at h
 ·have:=Nat.eq_of_beq_eq_true h
  subst this
  obtain⟨k,z,e⟩:=hx
  exact⟨k,z,e,k,e⟩
 ·rename_i k a k' b
  have:=of_decide_eq_true h
  subst this
  exact⟨k,a,rfl,k',rfl⟩
 ·cases h
theorem zhh {α:Type} {f:α→List PV} {x:α} {y:PV} (h:f x=[y]):∀ m,(List.replicate m x).flatMap f=List.replicate m y
 | 0=>rfl
 | m+1=>by rw[List.replicate_succ,List.flatMap_cons,h,zhh h m];rfl
theorem RefL.rep {p q:PV} (h:Ref p q):∀ m,RefL (List.replicate m p) (List.replicate m q)
 | 0=>RefL.nil
 | m+1=>RefL.cons h (RefL.rep h m)
theorem sMk_ok {zy:ZY} {t:Nat} {x y:Operand} {nid:Nat} {q:SR} (ho:o.op = .makeSlice t x y) (h:sMk zy (v7 P t) o G nid (zvd x y) (evE E x)=some q):SOk P o E G q:=by
 have hx':x∈o.op.operands:=by rw[ho];simp[Op.operands]
 unfold sMk at h
 split at h
 ·cases h
 rename_i hds
 simp only[Bool.and_eq_true] at hds
 obtain⟨d,hd⟩:=zm hds.1
 split at h
 ·cases h
 rename_i e k b z hse
 split at h
 ·cases h
 rename_i dy hdy
 split at h<;>try (cases h;done)
 rename_i hc
 simp only[Bool.and_eq_true] at hc
 have ek:=Nat.eq_of_beq_eq_true hc.1
 obtain⟨r1,r2,r3,r4⟩:=z5i hc.2
 obtain⟨a,ha,h⟩:=jm h
 cases h
 obtain⟨kd,hk⟩:=Vj ha
 refine SOk.memO fun m hm W n F H hdo hag=>?_
 obtain⟨rfl,m1,m2⟩:=z75 hm
 have hev:evP F x = .u (.int kd m):=by rw[hag.ev hx',hk]
 obtain⟨k1,z1,e1,k2,e2⟩:=z3h (F:=F) hds.2 ⟨kd,m,hev⟩
 rw[hev] at e1
 cases e1
 rw[ek] at hse
 have hc1:encC dy.t dy.x=[enc dy.t dy.x]:=by rw[← enc_cells];exact r3
 refine PE.weakB (bd := .row e 1 m (List.replicate m (.u z))) (bd' := .row e (wid dy.t) (List.replicate m dy.x).length ((List.replicate m dy.x).flatMap (encC dy.t))) (by rw[r2,List.length_replicate,zhh hc1];exact .row (RefL.rep r1 m)) (Ref.refl _) hdo ?_
 refine PE.makeSlice (id:=2*nid) (m:=m) ho hd (hdo d hd) hse r4 hev e2 m1 m2 ?_
 rw[zob hag]
 exact⟨by simp only[TS.den],rfl⟩
inductive LK where
 | told (t:Ty)
 | own (t:Ty)
 | ownx
theorem Ref.sl {k:Nat} {xs ys:List PV} (hl:xs.length=ys.length) (hc:RefL (xs.flatMap PV.cells) (ys.flatMap PV.cells)) (hu:∀ y∈ys,y.cells.length=k):Ref (.sl k xs) (.sl k ys):=fun Z H V w v hv=>by
 cases hv with
 | nil k a c=>
  have:ys=[]:=List.length_eq_zero_iff.1 hl.symm
  subst this
  exact .nil k a c
 | sl _ _ b o' c g hu' hlen hz hb h1 h2=>
  rw[hl]
  refine .sl k ys b o' c g hu (by omega) hz hb (fun i p hi=>?_) fun i p hi=>?_
  ·have hlt:i<(xs.flatMap PV.cells).length:=by rw[hc.1];exact(List.getElem?_eq_some_iff.1 hi).1
   exact h1 i _ (List.getElem?_eq_getElem hlt)
  ·have hlt:i<(xs.flatMap PV.cells).length:=by rw[hc.1];exact(List.getElem?_eq_some_iff.1 hi).1
   exact hc.2 i _ p (List.getElem?_eq_getElem hlt) hi _ _ _ _ _ (h2 i _ (List.getElem?_eq_getElem hlt))
def jbp:Nat→List Nat→Bool
 | _,[]=>true
 | i,a :: l=>Nat.beq a i && jbp (i+1) l
theorem z2p:∀ {l:List Nat} {i:Nat},jbp i l=true→l=(List.range l.length).map (i + ·)
 | [],_,_=>rfl
 | a :: l,i,h=>by
  simp only[jbp,Bool.and_eq_true] at h
  have e1:=Nat.eq_of_beq_eq_true h.1
  have e2:=z2p h.2
  rw[List.length_cons,List.range_succ_eq_map,List.map_cons,List.map_map]
  rw[← e1]
  congr 1
  conv=>lhs;rw[e2]
  apply List.map_congr_left
  intro x _
  simp only[Function.comp]
  omega
def z2h (k:Nat):List TS→Bool
 | []=>true
 | x :: xs=>Nat.beq (Qu x) k && z2h k xs
def jbh (G:EG) (k len:Nat) (ps:List (Nat×TS)):Bool:=jbp 0 (ps.map Prod.fst) && (Nat.beq ps.length len && (z2h k (ps.map Prod.snd) && zz9 G (ps.map Prod.snd)))
def sLit (lk:Option LK) (se:SE) (o:Oper) (G:EG) (nid len:Nat) (ps:List (Nat×TS)):Option SR:=match Jy o with
 | false=>none
 | true=>match lk with
  | none=>none
  | some lk=>match se with
   | none=>none
   | some (e,k,b,z)=>match (z.cells.toList.all Value.oneCell' && (Nat.ble (len*k) 16777216 && Nat.ble len 16777216)) && jbh G k len ps with
    | false=>none
    | true=>match lk with
     | .told ty=>match Nat.beq (wid ty) k with
      | true=>match zb8 ty (ps.map Prod.snd) with
       | some l=>some (.now (.v ⟨.sl ty,l⟩) (zds (ps.map Prod.snd)))
       | none=>none
      | false=>none
     | .own ty=>match Nat.beq (wid ty) k with
      | true=>match zb8 ty (ps.map Prod.snd) with
       | some l=>some (.mem (.own nid (nv G nid)) nid ⟨nv G nid,some (.row e ty l)⟩ (zds (ps.map Prod.snd)))
       | none=>none
      | false=>none
     | .ownx=>some (.mem (.own nid (nv G nid)) nid ⟨nv G nid,some (.rowx e k (ps.map Prod.snd))⟩ (zds (ps.map Prod.snd)))
theorem zy4 {k:Nat}:∀ {xs:List TS},z2h k xs=true→∀ x∈xs,x.den.cells.length=k
 | [],_,x,hx=>by simp at hx
 | y :: xs,h,x,hx=>by
  simp only[z2h,Bool.and_eq_true] at h
  rcases List.mem_cons.1 hx with rfl | hx
  ·rw[zer];exact Nat.eq_of_beq_eq_true h.1
  ·exact zy4 h.2 x hx
theorem zwy:∀ {xs:List TS},zz9 G xs=true→∀ x∈xs,okT G x=true
 | [],_,x,hx=>by simp at hx
 | y :: xs,h,x,hx=>by
  simp only[zz9,Bool.and_eq_true] at h
  rcases List.mem_cons.1 hx with rfl | hx
  ·exact h.1
  ·exact zwy h.2 x hx
theorem zsf:∀ {xs:List TS} {x:TS},x∈xs→∀ id∈ze6 x,id∈zds xs
 | [],x,hx,_,_=>by simp at hx
 | y :: xs,x,hx,id,hid=>by
  simp only[zds,List.mem_append]
  rcases List.mem_cons.1 hx with rfl | hx
  ·exact .inl hid
  ·exact .inr (zsf hx id hid)
theorem z16 {k len:Nat} {ps:List (Nat×TS)} (h:jbh G k len ps=true) (hH:∀ id∈zds (ps.map Prod.snd),H (2*id)=j8 (G id)):zff H k len (ps.map fun x=>(x.1,x.2.den))=true:=by
 unfold jbh at h
 simp only[Bool.and_eq_true] at h
 obtain⟨h1,h2,h3,h4⟩:=h
 have h2:=Nat.eq_of_beq_eq_true h2
 unfold zff
 rw[Bool.and_eq_true,decide_eq_true_eq,List.all_eq_true]
 constructor
 ·have:=z2p h1
  rw[List.map_map]
  have e:(ps.map ((fun x=>x.1) ∘ fun x=>(x.1,x.2.den)))=ps.map Prod.fst:=rfl
  rw[e,this,List.length_map,h2]
  simp
 ·intro p hp
  obtain⟨x,hx,rfl⟩:=List.mem_map.1 hp
  have hm:x.2∈ps.map Prod.snd:=List.mem_map.2 ⟨x,hx,rfl⟩
  rw[Bool.and_eq_true,decide_eq_true_eq]
  exact⟨zy4 h3 _ hm,zct (zwy h4 _ hm) fun id hid=>hH id (zsf hm id hid)⟩
theorem jak {lk:Option LK} {t len nid:Nat} {parts:Array (Nat×Operand)} {q:SR} (ho:o.op = .buildSlice t len parts) (h:sLit lk (v7 P t) o G nid len (parts.toList.map fun x=>(x.1,evE E x.2))=some q):SOk P o E G q:=by
 have hx':∀ x∈parts.toList,x.2∈o.op.operands:=fun x hx=>by
  rw[ho]
  simp only[Op.operands,List.mem_toArray,List.mem_map]
  exact⟨x,hx,rfl⟩
 have hev:∀ {rd F H},Agr o E G rd F H→(parts.toList.map fun x=>(x.1,evP F x.2))=(parts.toList.map fun x=>(x.1,evE E x.2)).map fun p=>(p.1,p.2.den):=fun {rd F H} hag=>by
  rw[List.map_map]
  exact List.map_congr_left fun x hx=>by simp only[Function.comp];rw[hag.ev (hx' x hx)]
 have hev2:∀ {rd F H},Agr o E G rd F H→(parts.toList.map fun x=>evP F x.2)=((parts.toList.map fun x=>(x.1,evE E x.2)).map Prod.snd).map TS.den:=fun {rd F H} hag=>by
  rw[List.map_map,List.map_map]
  exact List.map_congr_left fun x hx=>by simp only[Function.comp];rw[hag.ev (hx' x hx)]
 have hfl:∀ xs:List TS,(xs.map TS.den).flatMap PV.cells=jq xs:=fun xs=>by rw[zj2,List.flatMap_map]
 generalize (parts.toList.map fun x=>(x.1,evE E x.2))=ps at *
 unfold sLit at h
 split at h
 ·cases h
 rename_i hds
 obtain⟨d,hd⟩:=zm hds
 split at h
 ·cases h
 split at h
 ·cases h
 rename_i e k b z hse
 split at h
 ·cases h
 rename_i hc
 simp only[Bool.and_eq_true] at hc
 obtain⟨⟨c1,c2,c3⟩,c4⟩:=hc
 have c2:=Nat.le_of_ble_eq_true c2
 have c3:=Nat.le_of_ble_eq_true c3
 have c3:len≤maxLen:=by simp[maxLen];omega
 have hlen:ps.length=len:=by
  unfold jbh at c4
  simp only[Bool.and_eq_true] at c4
  exact Nat.eq_of_beq_eq_true c4.2.1
 have hmake:∀ {W n F H},jn n o→Agr o E G (nid :: zds (ps.map Prod.snd)) F H→PE P W n o F H (fun p H'=>p = .ps (2*nid) (nv G nid)∧H'=H.set (2*nid) ⟨nv G nid,some (.row e k len (jq (ps.map Prod.snd)))⟩):=fun {W n F H} hdo hag=>by
  refine PE.buildSlice (id:=2*nid) ho hd (hdo d hd) hse c1 c2 c3 (by rw[hev hag];exact z16 c4 fun id hid=>hag.h id (by simp[hid])) ?_
  rw[zob hag,hev2 hag,hfl]
  exact⟨rfl,rfl⟩
 split at h
 ·rename_i ty
  split at h<;>try (cases h;done)
  rename_i hw
  have hw:=Nat.eq_of_beq_eq_true hw
  split at h<;>cases h
  rename_i l hl
  obtain⟨r1,r2⟩:=zcc hl
  refine SOk.now fun W F H hag=>?_
  refine PQ.ref (PQ.buildSlice ho hse c1 c2 (by rw[hev hag];exact z16 c4 fun id hid=>hag.h id hid)) ?_
  rw[hev2 hag]
  simp only[TS.den]
  rw[zge,hw]
  refine Ref.sl (by simp[r2]) (by rw[hfl,Va];exact r1) fun y hy=>?_
  obtain⟨x,_,rfl⟩:=List.mem_map.1 hy
  rw[enc_cells,jr,hw]
 ·rename_i ty
  split at h<;>try (cases h;done)
  rename_i hw
  have hw:=Nat.eq_of_beq_eq_true hw
  split at h<;>cases h
  rename_i l hl
  obtain⟨r1,r2⟩:=zcc hl
  refine SOk.mem fun W n F H hdo hag=>?_
  refine PE.weakB (p0 := .ps (2*nid) (nv G nid)) (bd := .row e k len (jq (ps.map Prod.snd))) (bd' := .row e (wid ty) l.length (l.flatMap (encC ty))) (by rw[hw,r2,List.length_map,hlen];exact .row r1) (by simp only[TS.den];exact Ref.refl _) hdo (hmake hdo hag)
 ·cases h
  refine SOk.mem fun W n F H hdo hag=>?_
  refine PE.mono (hmake hdo hag) fun p H' ⟨e1,e2⟩=>⟨by rw[e1];simp only[TS.den],?_⟩
  rw[e2]
  simp only[j8,Option.map_some,BD.den,List.length_map,hlen]
end
end Go.Proofs.YtdllbdlnmjngcaaGreat.T

namespace Go.Proofs.YtdllbdlnmjngcaaGreat.T
open Go Go.RowKit L
set_option linter.unusedVariables false
set_option linter.unusedSimpArgs false
theorem Rp.dropSl {Z:ZM} {H:PHeap} {V:Nat→Value} {w:World} {k m c off:Nat} {xs:List PV} {ad ad':Option Addr} (h:Rp Z H V w (.sl k xs) (.slice ad m c)) (hu:∀ y∈xs,y.cells.length=k) (hom:off≤m) (hmc:m≤c)
  (hcase:(ad=none∧ad'=none)∨∃ b o,ad=some ⟨b,0,none⟩∧ad'=some ⟨b,o,none⟩∧(o=off*k∨c=off)):Rp Z H V w (.sl k (xs.drop off)) (.slice ad' (m-off) (c-off)):=by
 cases h with
 | nil k a c=>
  rw[Nat.zero_sub,List.drop_nil]
  exact .nil _ _ _
 | sl k xs b o c g _ hlen hz hb h1 h2=>
  rcases hcase with ⟨e,_⟩ | ⟨b',oo,e,rfl,h3⟩
  ·cases e
  ·cases e
   by_cases h0:off=xs.length
   ·rw[h0,List.drop_length,Nat.sub_self]
    exact .nil _ _ _
   ·have ho:oo=off*k:=by rcases h3 with h3 | h3;exact h3;omega
    subst ho
    have hfl:(xs.drop off).flatMap PV.cells=(xs.flatMap PV.cells).drop (off*k):=by
     have e1:xs.flatMap PV.cells=(xs.take off).flatMap PV.cells++(xs.drop off).flatMap PV.cells:=by rw[← List.flatMap_append,List.take_append_drop]
     have e2:((xs.take off).flatMap PV.cells).length=off*k:=by
      have:∀(ys:List PV),(∀ y∈ys,y.cells.length=k)→(ys.flatMap PV.cells).length=ys.length*k:=by
       intro ys
       induction ys with
       | nil=>intro _;simp
       | cons y ys ih=>intro hy;rw[List.flatMap_cons,List.length_append,ih (fun z hz=>hy z (by simp[hz])),hy y (by simp),List.length_cons,Nat.add_mul];omega
      rw[this _ fun y hy=>hu y (List.mem_of_mem_take hy),List.length_take,Nat.min_eq_left hom]
     rw[e1,List.drop_left' e2]
    have:=Rp.sl (Z:=Z) (H:=H) (V:=V) (w:=w) k (xs.drop off) b (off*k) (c-off) (fun i=>g (off*k+i)) (fun y hy=>hu y (List.mem_of_mem_drop hy)) (by rw[List.length_drop];omega) hz hb (fun i p hi=>by
     rw[hfl,List.getElem?_drop] at hi
     have:=h1 _ p hi
     rwa [Nat.zero_add] at this) fun i p hi=>by
     rw[hfl,List.getElem?_drop] at hi
     exact h2 _ p hi
    rwa [List.length_drop] at this
theorem View.rowQ {H:PHeap} {id ver off:Nat} {t:TypeId} {k n:Nat} {cs:List PV} (hl:qj H id ver=some (t,k,n,cs)) (xs:List PV) (hn:xs.length=n) (hu:∀ y∈xs,y.cells.length=k)
  (h:∀(i:Nat) (p q:PV),cs[i]? = some p→(xs.flatMap PV.cells)[i]? = some q→View H p q):View H (.qs id off k ver) (.sl k (xs.drop off)):=fun P W V w hr v hv=>by
 obtain⟨hb,hve⟩:=qw hl
 cases hv with
 | qs _ _ _ _ _ hvv hh=>
  obtain⟨ad,m,c,ad',hV,rfl,hom,hmc,hcase⟩:=hh (by rw[hb];rfl) hve
  have hrow:=View.row hl xs hn hu h P W V w hr (V id) (.ps id ver _ hvv fun _ _=>rfl)
  rw[hV] at hrow
  exact Rp.dropSl hrow hu hom hmc hcase
def zh3 {α:Type} (f:TS→Option α):List TS→Option (List α)
 | []=>some []
 | x :: xs=>match f x with
  | none=>none
  | some a=>match zh3 f xs with
   | none=>none
   | some l=>some (a :: l)
mutual
def yv (G:EG):(t:Ty)→TS→Option t.D
 | .int k,s=>J8 (.int k) s
 | .bool,s=>J8 .bool s
 | .str,s=>J8 .str s
 | .sl t,s=>match s with
  | .own id ver=>match Nat.beq (G id).ver ver with
   | true=>match (G id).b with
    | some (.row _ t' l)=>Dyn.as ⟨.sl t',l⟩ (.sl t)
    | some (.rowx _ k xs)=>match Nat.beq k (wid t) with
     | true=>zh3 (yv G t) xs
     | false=>none
    | _=>none
   | false=>none
  | .q id k off ver=>match Nat.beq (G id).ver ver && Nat.beq k (wid t) with
   | true=>match (G id).b with
    | some (.row _ t' l)=>match Dyn.as ⟨.sl t',l⟩ (.sl t) with
     | some l=>some (l.drop off)
     | none=>none
    | _=>none
   | false=>none
  | s=>J8 (.sl t) s
 | .ref t,s=>match s with
  | .pt id off ver=>match Nat.beq off 0 && Nat.beq (G id).ver ver with
   | true=>match (G id).b with
    | some (.box _ xs)=>match yv G t (Yt (Jq t) xs) with
     | some x=>some (some x)
     | none=>none
    | _=>none
   | false=>none
  | .rd d=>match d.as t with
   | some x=>some (some x)
   | none=>none
  | s=>J8 (.ref t) s
 | .nil,_=>none
 | .cons _ _,_=>none
 | .st r,s=>match J8 (.st r) s with
  | some x=>some x
  | none=>match Zf s with
   | some xs=>zbv G r xs
   | none=>none
 | .arr n t,s=>match J8 (.arr n t) s with
  | some x=>some x
  | none=>match Zf s with
   | some xs=>z2v n (zeb (yv G t) (Jq t) (wid t) n xs)
   | none=>none
 | .tup r,s=>match s with
  | .tup xs=>zay G r xs
  | s=>J8 (.tup r) s
def zbv (G:EG):(r:Ty)→List TS→Option r.D
 | .nil,[]=>some ()
 | .cons a r,xs=>match Qa 512 (wid a) xs with
  | none=>none
  | some q=>match yv G a (Yt (Jq a) q.1) with
   | none=>none
   | some x=>match zbv G r q.2 with
    | none=>none
    | some y=>some (x,y)
 | _,_=>none
def zay (G:EG):(r:Ty)→List TS→Option r.D
 | .nil,[]=>some ()
 | .cons a r,x :: xs=>match yv G a x with
  | none=>none
  | some p=>match zay G r xs with
   | none=>none
   | some y=>some (p,y)
 | _,_=>none
end
section
variable {H : PHeap} {G : EG}
theorem View.ref {p q r:PV} (h:View H p q) (hr:Ref q r):View H p r:=fun P W V w hw v hv=>hr _ _ _ _ _ (h P W V w hw v hv)
theorem ViewL.app {a b c d:List PV} (h1:ViewL H a b) (h2:ViewL H c d):ViewL H (a++c) (b++d):=⟨by simp[h1.1,h2.1],fun i p q h3 h4=>by
 by_cases hi:i<a.length
 ·rw[List.getElem?_append_left hi] at h3
  rw[List.getElem?_append_left (by rw[← h1.1];exact hi)] at h4
  exact h1.2 i p q h3 h4
 ·rw[List.getElem?_append_right (by omega)] at h3
  rw[List.getElem?_append_right (by rw[← h1.1];omega),← h1.1] at h4
  exact h2.2 _ p q h3 h4⟩
def VOk (H:PHeap) (s:TS) (t:Ty) (x:t.D):Prop:=View H s.den (enc t x)∧ViewL H s.den.cells (encC t x)
theorem z8b {t:Ty} (x:t.D) (h:Jq t=false):encC t x=[enc t x]:=by
 have:=jr t x
 rw[zaz h] at this
 unfold enc mkV;rw[h]
 match hc:encC t x,this with
 | [c],_=>rfl
theorem VOk.one {s:TS} {t:Ty} {x:t.D} (h:View H s.den (enc t x)) (ha:Jq t=false) (hs:Jg s=false):VOk H s t x:=⟨h,by
 rw[Qv hs,z8b x ha];exact ViewL.cons h (ViewL.nil H)⟩
theorem Jr {t:Ty} {s:TS} {x:t.D} (h:J8 t s=some x):VOk H s t x:=by
 have hn:NoP s.den∧∀ c∈s.den.cells,NoP c:=by
  unfold J8 at h
  split at h
  ·simp only[TS.den];exact⟨J1 _ _,fun c hc=>(J1 _ _).cell hc⟩
  ·simp only[TS.den];exact⟨zc2 _,fun c hc=>(zc2 _).cell hc⟩
  ·cases h
 obtain⟨h1,h2⟩:=Vi h
 exact⟨View.ref (View.noP hn.1) h2,h1.1,fun i p q h3 h4=>View.ref (View.noP (hn.2 p (List.mem_of_getElem? h3))) (h1.2 i p q h3 h4)⟩
theorem zo3 {t:Ty} {f:TS→Option t.D} (hf:∀ s x,f s=some x→VOk H s t x):∀ {xs:List TS} {l:List t.D},zh3 f xs=some l→ViewL H (jq xs) (l.flatMap (encC t))∧l.length=xs.length
 | [],l,h=>by simp only[zh3] at h;cases h;simp only[jq,List.flatMap_nil];exact⟨ViewL.nil H,rfl⟩
 | x :: xs,l,h=>by
  simp only[zh3] at h
  split at h<;>try (cases h;done)
  rename_i a ha
  split at h<;>try (cases h;done)
  rename_i l' hl
  cases h
  obtain⟨h1,h2⟩:=zo3 hf hl
  refine⟨?_,by simp[h2]⟩
  simp only[jq,List.flatMap_cons]
  exact ViewL.app (hf _ _ ha).2 h1
theorem zfw (t:Ty):yv G t .dead=none:=by cases t<;>simp[yv,J8,Zf,zr9,zka]
theorem zpe {t:Ty} {f:TS→Option t.D} (hf:∀ s x,f s=some x→VOk H s t x) (hd:f .dead=none):∀(n:Nat) (xs:List TS) (l:List t.D),zeb f (Jq t) (wid t) n xs=some l→ViewL H (jq xs) (l.flatMap (encC t))
 | 0,[],l,h=>by simp only[zeb] at h;cases h;simp only[jq,List.flatMap_nil];exact ViewL.nil H
 | 0,_ :: _,l,h=>by simp[zeb] at h
 | n+1,xs,l,h=>by
  simp only[zeb] at h
  split at h<;>try (cases h;done)
  rename_i r hr
  split at h<;>try (cases h;done)
  rename_i a ha
  split at h<;>try (cases h;done)
  rename_i l' hl
  cases h
  obtain⟨h1,h2⟩:=zg _ _ _ _ hr
  have hnd:Yt (Jq t) r.1 ≠ .dead:=fun e=>by rw[e,hd] at ha;cases ha
  have h3:=(hf _ _ ha).2
  rw[Qt hnd] at h3
  rw[List.flatMap_cons,← h1]
  exact ViewL.app h3 (zpe hf hd n r.2 l' hl)
theorem View.aggL {s:TS} {xs:List TS} {t:Ty} {x:t.D} (hs:Zf s=some xs) (ha:Jq t=true) (h:ViewL H (jq xs) (encC t x)):VOk H s t x:=by
 unfold VOk
 rw[zbu hs]
 refine⟨?_,h⟩
 unfold enc mkV
 rw[ha]
 exact View.agg h.1 h.2
mutual
theorem Jo (hG:∀ id,(G id).b.isSome=true→H (2*id)=j8 (G id)):∀(t:Ty) (s:TS) (x:t.D),yv G t s=some x→VOk H s t x
 | .int k,s,x,h=>Jr (by simpa only [yv] using h)
 | .bool,s,x,h=>Jr (by simpa only [yv] using h)
 | .str,s,x,h=>Jr (by simpa only [yv] using h)
 | .sl t,s,x,h=>by
  simp only[yv] at h
  split at h
  ·rename_i _ id ver
   split at h<;>try (cases h;done)
   rename_i hv
   have hv:=Nat.eq_of_beq_eq_true hv
   split at h
   ·rename_i tid t' l hb
    have:=Dyn.as_eq h
    injection this with e1 e2
    injection e1 with e1
    subst e1
    have e2:=eq_of_heq e2
    subst e2
    refine VOk.one ?_ rfl rfl
    simp only[TS.den]
    rw[zge]
    refine View.row (vc (hG id (by rw[hb];rfl)) hb rfl hv) _ (by simp) (fun y hy=>?_) fun i p q h1 h2=>?_
    ·obtain⟨z,_,rfl⟩:=List.mem_map.1 hy;rw[enc_cells,jr]
    ·rw[Va,h1] at h2
     cases h2
     obtain⟨z,_,hz⟩:=List.mem_flatMap.1 (List.mem_of_getElem? h1)
     exact View.noP (vi _ _ _ hz)
   ·rename_i tid k xs hb
    split at h<;>try (cases h;done)
    rename_i hk
    have hk:=Nat.eq_of_beq_eq_true hk
    obtain⟨h1,h2⟩:=zo3 (fun s x=>Jo hG t s x) h
    refine VOk.one ?_ rfl rfl
    simp only[TS.den]
    rw[zge,← hk]
    refine View.row (vc (hG id (by rw[hb];rfl)) hb rfl hv) _ (by simp[h2]) (fun y hy=>?_) fun i p q h3 h4=>?_
    ·obtain⟨z,_,rfl⟩:=List.mem_map.1 hy;rw[enc_cells,jr,hk]
    ·rw[Va] at h4;exact h1.2 i p q h3 h4
   ·cases h
  ·rename_i _ id k off ver
   split at h<;>try (cases h;done)
   rename_i hv
   simp only[Bool.and_eq_true] at hv
   obtain⟨gv,hk⟩:=hv
   have hk:=Nat.eq_of_beq_eq_true hk
   have gv:=Nat.eq_of_beq_eq_true gv
   subst hk
   split at h<;>try (cases h;done)
   rename_i tid t' l hb
   split at h<;>cases h
   rename_i l' hl
   have:=Dyn.as_eq hl
   injection this with e1 e2
   injection e1 with e1
   subst e1
   have e2:=eq_of_heq e2
   subst e2
   refine VOk.one ?_ rfl rfl
   simp only[TS.den]
   rw[zge,List.map_drop]
   refine View.rowQ (vc (hG id (by rw[hb];rfl)) hb rfl gv) _ (by simp) (fun y hy=>?_) fun i p q h1 h2=>?_
   ·obtain⟨z,_,rfl⟩:=List.mem_map.1 hy;rw[enc_cells,jr]
   ·rw[Va,h1] at h2
    cases h2
    obtain⟨z,_,hz⟩:=List.mem_flatMap.1 (List.mem_of_getElem? h1)
    exact View.noP (vi _ _ _ hz)
  ·exact Jr h
 | .ref t,s,x,h=>by
  simp only[yv] at h
  split at h
  ·rename_i _ id off ver
   split at h<;>try (cases h;done)
   rename_i hv
   simp only[Bool.and_eq_true] at hv
   obtain⟨g0,gv⟩:=hv
   have g0:=Nat.eq_of_beq_eq_true g0
   have gv:=Nat.eq_of_beq_eq_true gv
   subst g0
   split at h<;>try (cases h;done)
   rename_i tid xs hb
   split at h<;>cases h
   rename_i y hy
   have hnd:Yt (Jq t) xs ≠ .dead:=fun e=>by rw[e,zfw] at hy;cases hy
   have h1:=(Jo hG t _ y hy).2
   rw[Qt hnd] at h1
   refine VOk.one ?_ rfl rfl
   simp only[TS.den]
   show View H (.pp (2*id) 0 ver) (.rp (encC t y))
   exact View.pp (y0 (hG id (by rw[hb];rfl)) hb gv) (by rw[Nat.zero_add];exact h1.1) fun i p q h3 h4=>h1.2 i p q (by rw[Nat.zero_add] at h3;exact h3) h4
  ·rename_i _ d
   split at h<;>cases h
   rename_i y hy
   have:=Dyn.as_eq hy
   subst this
   refine VOk.one ?_ rfl rfl
   simp only[TS.den]
   exact View.noP (.rp _ (vi _ _))
  ·exact Jr h
 | .nil,s,x,h=>by simp[yv] at h
 | .cons _ _,s,x,h=>by simp[yv] at h
 | .st r,s,x,h=>by
  simp only[yv] at h
  split at h
  ·cases h;exact Jr (by assumption)
  ·split at h<;>try (cases h;done)
   rename_i xs hp
   exact View.aggL hp rfl (zyi hG r xs x h)
 | .arr n t,s,x,h=>by
  simp only[yv] at h
  split at h
  ·cases h;exact Jr (by assumption)
  ·split at h<;>try (cases h;done)
   rename_i xs hp
   exact View.aggL hp rfl (zpe (fun s x=>Jo hG t s x) (zfw t) _ _ _ (zof h))
 | .tup r,s,x,h=>by
  simp only[yv] at h
  split at h
  ·rename_i _ xs
   have h1:=zyc hG r xs x h
   refine VOk.one ?_ rfl rfl
   simp only[TS.den]
   exact View.tup h1.1 h1.2
  ·exact Jr h
theorem zyi (hG:∀ id,(G id).b.isSome=true→H (2*id)=j8 (G id)):∀(r:Ty) (xs:List TS) (x:r.D),zbv G r xs=some x→ViewL H (jq xs) (encC r x)
 | .nil,xs,x,h=>by
  cases xs with
  | nil=>simp only[jq,encC];exact ViewL.nil H
  | cons _ _=>simp[zbv] at h
 | .cons a r,xs,x,h=>by
  simp only[zbv] at h
  split at h<;>try (cases h;done)
  rename_i q hq
  split at h<;>try (cases h;done)
  rename_i p hp
  split at h<;>try (cases h;done)
  rename_i y hy
  cases h
  obtain⟨h1,h2⟩:=zg _ _ _ _ hq
  have hnd:Yt (Jq a) q.1 ≠ .dead:=fun e=>by rw[e,zfw] at hp;cases hp
  have h3:=(Jo hG a _ _ hp).2
  rw[Qt hnd] at h3
  simp only[encC]
  rw[← h1]
  exact ViewL.app h3 (zyi hG r q.2 y hy)
 | .int k,xs,x,h=>by simp[zbv] at h
 | .bool,xs,x,h=>by simp[zbv] at h
 | .str,xs,x,h=>by simp[zbv] at h
 | .sl t,xs,x,h=>by simp[zbv] at h
 | .ref t,xs,x,h=>by simp[zbv] at h
 | .st r,xs,x,h=>by simp[zbv] at h
 | .arr n t,xs,x,h=>by simp[zbv] at h
 | .tup r,xs,x,h=>by simp[zbv] at h
theorem zyc (hG:∀ id,(G id).b.isSome=true→H (2*id)=j8 (G id)):∀(r:Ty) (xs:List TS) (x:r.D),zay G r xs=some x→ViewL H (vm xs) (qx r (encC r x))
 | .nil,xs,x,h=>by
  cases xs with
  | nil=>simp only[vm,qx];exact ViewL.nil H
  | cons _ _=>simp[zay] at h
 | .cons a r,xs,x,h=>by
  cases xs with
  | nil=>simp[zay] at h
  | cons z xs=>
   simp only[zay] at h
   split at h<;>try (cases h;done)
   rename_i p hp
   split at h<;>try (cases h;done)
   rename_i y hy
   cases h
   simp only[vm,encC,qx]
   have hl:=jr a p
   rw[List.take_left' hl,List.drop_left' hl]
   exact ViewL.cons (Jo hG a z p hp).1 (zyc hG r xs y hy)
 | .int k,xs,x,h=>by simp[zay] at h
 | .bool,xs,x,h=>by simp[zay] at h
 | .str,xs,x,h=>by simp[zay] at h
 | .sl t,xs,x,h=>by simp[zay] at h
 | .ref t,xs,x,h=>by simp[zay] at h
 | .st r,xs,x,h=>by simp[zay] at h
 | .arr n t,xs,x,h=>by simp[zay] at h
 | .tup r,xs,x,h=>by simp[zay] at h
end
end
end Go.Proofs.YtdllbdlnmjngcaaGreat.T

namespace Go.Proofs.YtdllbdlnmjngcaaGreat.T
open Go Go.RowKit L
set_option linter.unusedVariables false
set_option linter.unusedSimpArgs false
def pvs (ds:List Dyn):List PV:=ds.map Dyn.pv
def z23 (ds:List Dyn):EF:=fun s=>match ds[s]? with
 | some d => .v d
 | none=>UND
def zaw (P:Program) (E:EF) (G:EG):ResultVar→Option TS
 | .tmp t=>some (E t)
 | .cell a t=>match asz P t with
  | none=>none
  | some (ag,k)=>match E a with
   | .pt id off ver=>match Nat.beq (G id).ver ver with
    | true=>match (G id).b with
     | some (.box _ xs)=>ldT ag k off xs
     | _=>none
    | false=>none
   | _=>none
def zrv (P:Program) (E:EF) (G:EG):List ResultVar→Option (List TS)
 | []=>some []
 | r :: rs=>match zaw P E G r with
  | none=>none
  | some x=>match zrv P E G rs with
   | none=>none
   | some xs=>some (x :: xs)
def zmh (P:Program) (rs:List ResultVar) (E:EF) (G:EG):Option TS:=match rs with
 | [r]=>zaw P E G r
 | l=>match zrv P E G l with
  | some xs=>some (.tup xs)
  | none=>none
section
variable {P : Program} {E : EF} {G : EG} {R : PHeap}
theorem zwm {r:ResultVar} {s:TS} (h:zaw P E G r=some s):∃ q,Qh P (j5 G R) (yh E) r=some q∧Ref q s.den:=by
 cases r with
 | tmp t=>simp only[zaw] at h;cases h;exact⟨_,rfl,Ref.refl _⟩
 | cell a t=>
  simp only[zaw] at h
  split at h<;>try (cases h;done)
  rename_i ag k hsz
  split at h<;>try (cases h;done)
  rename_i id off ver hE
  split at h<;>try (cases h;done)
  rename_i hv
  have hv:=Nat.eq_of_beq_eq_true hv
  split at h<;>try (cases h;done)
  rename_i tid xs hb
  obtain⟨⟨p,h1,h2⟩,_⟩:=zgc h
  refine⟨p,?_,h2⟩
  show q6 P (j5 G R) t (E a).den=some p
  rw[hE]
  simp only[TS.den]
  unfold q6
  rw[hsz]
  simp only
  rw[y0 (j0 G R id) hb hv];exact h1
theorem zwu:∀ {rs:List ResultVar} {xs:List TS},zrv P E G rs=some xs→∃ qs,rs.mapM (Qh P (j5 G R) (yh E))=some qs∧RefL qs (vm xs)
 | [],xs,h=>by simp only[zrv] at h;cases h;exact⟨[],rfl,by simp only[vm];exact RefL.nil⟩
 | r :: rs,xs,h=>by
  simp only[zrv] at h
  split at h<;>try (cases h;done)
  rename_i x hx
  split at h<;>cases h
  rename_i ys hys
  obtain⟨q,h1,h2⟩:=zwm (R:=R) hx
  obtain⟨qs,h3,h4⟩:=zwu hys
  refine⟨q :: qs,?_,by simp only[vm];exact RefL.cons h2 h4⟩
  rw[List.mapM_cons,h1,h3];rfl
theorem ztk {fn:Func} {s:TS} (h:zmh P fn.results.toList E G=some s):∃ q,Y8 P fn (yh E) (j5 G R)=some q∧Ref q s.den:=by
 unfold zmh at h
 unfold Y8
 generalize fn.results.toList=l at h
 have many:∀ {l:List ResultVar},(match zrv P E G l with
   | some xs=>some (TS.tup xs)
   | none=>none)=some s→∃ q,(l.mapM (Qh P (j5 G R) (yh E))).map .tup=some q∧Ref q s.den:=fun {l} h=>by
  split at h<;>cases h
  rename_i xs hxs
  obtain⟨qs,h1,h2⟩:=zwu (R:=R) hxs
  exact⟨.tup qs,by rw[h1];rfl,by simp only[TS.den];exact Ref.tup h2⟩
 match l,h with
 | [],h=>exact many h
 | [r],h=>exact zwm h
 | _ :: _ :: _,h=>exact many h
end
def funP (P:Program) (sy:SyT) (hint:Nat→Option HK) (n:Nat) (rs:List ResultVar) (c:Code) (ats:List Ty) (rt:Ty) (nn:Nat) (t:DL ats):Option rt.D:=
 qg sy nn hint 0 0 n c 1 0 (z23 (za ats t)) EG.empty fun e _ E G=>match e with
  | .normal=>match zmh P rs E G with
   | some s=>yv G rt s
   | none=>none
  | .ret=>match zmh P rs E G with
   | some s=>yv G rt s
   | none=>none
  | _=>none
def zvz (P:Program) (f:FuncId) (ats:List Ty) (rt:Ty) (g:DL ats→Option rt.D):Prop:=
 ya P f=true∧∀ t r,g t=some r→PCall P f (pvs (za ats t)) (· = enc rt r)
theorem zrh:j5 EG.empty PHeap.empty=PHeap.empty:=by
 funext k
 unfold j5 z4q
 split<;>rfl
theorem PCall.introG {P:Program} {f:FuncId} {fn:Func} {c:Code} {as':List PV} {R:PV→Prop} (hf:P.funcs[f]? = some fn) (hb:fn.body=some c) (hl:as'.length≤fn.ntmps)
  (h:∀ W:Env,(∀ i,W.G i = .unk)→PC P W fn.ntmps c (Qe as') PHeap.empty fun e F H=>(e = .normal∨e = .ret)∧∃ q p,Y8 P fn F H=some q∧View H q p∧NoP p∧R p):PCall P f as' R:=fun Z w vs hz hzm hR=>by
 refine calls_of_wp hf hb (h { w:=w,Z:=Z,hm:=hzm } (fun _=>rfl) V0 _ w _ (Rel.enter hz hzm hR hl) fun e F' H' V' a' w' ⟨he,q,p,hq,hv,hn,hp⟩ hr=>?_)
 obtain⟨v,hrun,hqv⟩:=zca hr hq
 have:=hv P _ V' w' hr.heap v hqv
 rcases he with rfl | rfl
 ·exact⟨hr.defers,v,hrun,v,p,rfl,hp,hn,this,hr.heap.below⟩
 ·exact⟨hr.defers,v,hrun,v,p,rfl,hp,hn,this,hr.heap.below⟩
theorem zpa (ds:List Dyn):Qe (pvs ds)=yh (z23 ds):=by
 funext t
 unfold Qe yh z23 pvs
 rw[List.getElem?_map]
 cases ds[t]? with
 | none=>simp only[Option.map_none,Option.getD_none];exact und_den.symm
 | some d=>simp only[Option.map_some,Option.getD_some,TS.den];rfl
theorem zoa:∀(ts:List Ty) (t:DL ts),(za ts t).length=ts.length
 | [],_=>rfl
 | [t],_=>rfl
 | t :: u :: ts,x=>by simp only[za,List.length_cons,zoa (u :: ts)]
theorem z9n {P:Program} {sy:SyT} (hsy:zqj P sy) (hm:P.follows .mixedOrders=true) {hint:Nat→Option HK} {n:Nat} {rs:List ResultVar} {c:Code} {ats:List Ty} {rt:Ty} {nn:Nat} {f:FuncId} {fn:Func} (hf:P.funcs[f]? = some fn) (hb:fn.body=some c) (hn:fn.ntmps=n) (hr:fn.results.toList=rs) (hl:Nat.ble ats.length n=true) (hg:ya P f=true):zvz P f ats rt (funP P sy hint n rs c ats rt nn):=by
 subst hn;subst hr
 refine⟨hg,fun t r h=>?_⟩
 have hl':(pvs (za ats t)).length≤fn.ntmps:=by unfold pvs;rw[List.length_map,zoa];exact Nat.le_of_ble_eq_true hl
 refine PCall.introG hf hb hl' fun W hW=>?_
 have hR:RestOk 0 PHeap.empty:=fun i bd h=>by simp[PHeap.empty] at h
 have hGh:GhOk 0 W:=fun i=>by rw[hW];exact .unk
 obtain⟨e,nx,E',G',h3,_,ho⟩:=ym (P:=P) (fuel:=nn) (hint:=hint) (ctx:=0) (n:=fn.ntmps) (b:=0) hm hsy c 1 0 (z23 (za ats t)) EG.empty _ r h
 have this:=ho W PHeap.empty hGh hR
 rw[zrh] at this
 rw[zpa]
 refine PC.mono this fun e2 F' H' ⟨h0,h1,h2⟩=>?_
 subst h0;subst h1;subst h2
 have key:∀ {o:Option TS},o=zmh P fn.results.toList E' G'→(match o with
   | some s=>yv G' rt s
   | none=>none)=some r→∃ q p,Y8 P fn (yh E') (j5 G' PHeap.empty)=some q∧View (j5 G' PHeap.empty) q p∧NoP p∧p=enc rt r:=fun {o} ho h=>by
  cases o with
  | none=>cases h
  | some s=>
   simp only at h
   obtain⟨q,hq,hrq⟩:=ztk (R:=PHeap.empty) ho.symm
   have hv:=(Jo (H:=j5 G' PHeap.empty) (fun id _=>j0 G' PHeap.empty id) rt s r h).1
   exact⟨q,_,hq,fun P W V w hw v hv'=>hv P W V w hw v (hrq _ _ _ _ _ hv'),J1 _ _,rfl⟩
 cases e2 with
 | normal=>exact⟨.inl rfl,key rfl h3⟩
 | ret=>exact⟨.inr rfl,key rfl h3⟩
 | _=>cases h3
structure PF where
 ats:List Ty
 rt:Ty
 g:DL ats→Option rt.D
abbrev zz7:=FuncId→Option PF
def Jl (P:Program) (S:zz7):Prop:=∀ f x,S f=some x→zvz P f x.ats x.rt x.g
def zuy (E:EF) (c:Call):Option (FuncId×List TS):=match c.callee with
 | .value x=>match evE E x with
  | .fn (.func f) a b=>some (f,a++c.args.toList.map (evE E)++b)
  | _=>none
 | _=>none
mutual
def zn8:TS→Bool
 | .v _=>true
 | .c _=>true
 | .rd _=>true
 | .fn _ a b=>zkf a && zkf b
 | .agg xs=>zkf xs
 | .tup xs=>zkf xs
 | _=>false
def zkf:List TS→Bool
 | []=>true
 | x :: xs=>zn8 x && zkf xs
end
mutual
theorem z19:∀ s:TS,zn8 s=true→NoP s.den
 | .v d,h=>by simp only[TS.den];exact J1 _ _
 | .c v,h=>by simp only[TS.den];exact zc2 v
 | .rd d,h=>by simp only[TS.den];exact .rp _ (vi _ _)
 | .fn f a b,h=>by
  simp only[zn8,Bool.and_eq_true] at h
  simp only[TS.den];exact .fn _ _ _ (zbz a h.1).1 (zbz b h.2).1
 | .agg xs,h=>by
  simp only[zn8] at h
  simp only[TS.den];exact .agg _ (zbz xs h).2
 | .tup xs,h=>by
  simp only[zn8] at h
  simp only[TS.den];exact .tup _ (zbz xs h).1
 | .own _ _,h=>by simp[zn8] at h
 | .q _ _ _ _,h=>by simp[zn8] at h
 | .pt _ _ _,h=>by simp[zn8] at h
 | .elt _ _ _ _ _,h=>by simp[zn8] at h
 | .dead,h=>by simp[zn8] at h
theorem zbz:∀ xs:List TS,zkf xs=true→(∀ p∈vm xs,NoP p)∧∀ p∈jq xs,NoP p
 | [],_=>⟨fun p hp=>by simp[vm] at hp,fun p hp=>by simp[jq] at hp⟩
 | x :: xs,h=>by
  simp only[zkf,Bool.and_eq_true] at h
  have h1:=z19 x h.1
  obtain⟨h2,h3⟩:=zbz xs h.2
  refine⟨fun p hp=>?_,fun p hp=>?_⟩
  ·simp only[vm,List.mem_cons] at hp
   rcases hp with rfl | hp
   ·exact h1
   ·exact h2 p hp
  ·simp only[jq,List.mem_append] at hp
   rcases hp with hp | hp
   ·exact h1.cell hp
   ·exact h3 p hp
end
def zch:(ts:List Ty)→List TS→Option (DL ts)
 | [],[]=>some ()
 | [t],[x]=>toT t x
 | t :: u :: ts,x :: xs=>match toT t x with
  | none=>none
  | some a=>match zch (u :: ts) xs with
   | none=>none
   | some b=>some (a,b)
 | _,_=>none
theorem zsk:∀ {ts:List Ty} {xs:List TS} {t:DL ts},zch ts xs=some t→RefL (vm xs) (pvs (za ts t))
 | [],xs,t,h=>by
  cases xs with
  | nil=>simp only[vm];exact RefL.nil
  | cons _ _=>simp[zch] at h
 | [a],xs,t,h=>by
  match xs,h with
  | [x],h=>
   simp only[zch] at h
   simp only[vm]
   exact RefL.cons (Za _ _ _ h).2 RefL.nil
  | [],h=>simp[zch] at h
  | _ :: _ :: _,h=>simp[zch] at h
 | a :: u :: ts,xs,t,h=>by
  cases xs with
  | nil=>simp[zch] at h
  | cons x xs=>
   simp only[zch] at h
   split at h<;>try (cases h;done)
   rename_i p hp
   split at h<;>cases h
   rename_i q hq
   simp only[vm]
   exact RefL.cons (Za _ _ _ hp).2 (zsk hq)
def z6j (S:zz7) (E:EF) (c:Call):Option SR:=match zuy E c with
 | none=>none
 | some (f,az)=>match S f with
  | none=>none
  | some x=>match zkf az with
   | true=>match zch x.ats az with
    | some t=>some (.vo x.rt (x.g t))
    | none=>none
   | false=>none
section
variable {P : Program} {o : Oper} {E : EF} {G : EG} {rd : List Nat} {F : PFrame} {H : PHeap} {W : Env}
theorem zhc {c:Call} {f:FuncId} {az:List TS} (ho:o.op = .call c) (hag:Agr o E G rd F H) (h:zuy E c=some (f,az)):yk F c=some (f,vm az):=by
 unfold zuy at h
 unfold yk
 split at h
 ·rename_i x hc
  rw[hc]
  simp only
  have hx:evP F x=(evE E x).den:=hag.ev (by rw[ho];simp[Op.operands,Call.operands,hc])
  split at h
  ·rename_i g a b hx'
   cases h
   rw[hx,hx']
   have e:c.args.toList.map (evP F)=vm (c.args.toList.map (evE E)):=by
    rw[zaf,List.map_map]
    exact List.map_congr_left fun y hy=>hag.ev (by rw[ho];simp only[Op.operands,Call.operands,Array.mem_append];exact .inr (by simpa using hy))
   simp only[TS.den,zxe,e]
  ·cases h
 ·cases h
theorem z8g {S:zz7} (hS:Jl P S) {c:Call} {q:SR} (ho:o.op = .call c) (h:z6j S E c=some q):SOk P o E G q:=by
 unfold z6j at h
 split at h<;>try (cases h;done)
 rename_i f az ht
 split at h<;>try (cases h;done)
 rename_i x hx
 split at h<;>try (cases h;done)
 rename_i hn
 split at h<;>cases h
 rename_i t hrd
 obtain⟨hg,hc⟩:=hS f x hx
 refine SOk.vo fun r hr W F H hag=>?_
 have hnp:=(zbz az hn).1
 have hrf:=zsk hrd
 have hv:ViewL PHeap.empty (vm az) (pvs (za x.ats t)):=⟨hrf.1,fun i p q h1 h2=>View.ref (View.noP (hnp p (List.mem_of_getElem? h1))) (hrf.2 i p q h1 h2)⟩
 exact PQ.callB ho (zhc ho hag ht) hg hv hnp (hc t r hr)
end
mutual
def idvT:TS→List (Nat×Nat)
 | .own id ver=>[(id,ver)]
 | .q id _ _ ver=>[(id,ver)]
 | .pt id _ ver=>[(id,ver)]
 | .elt id _ _ _ ver=>[(id,ver)]
 | .fn _ a b=>zdf a++zdf b
 | .agg xs=>zdf xs
 | .tup xs=>zdf xs
 | _=>[]
def zdf:List TS→List (Nat×Nat)
 | []=>[]
 | x :: xs=>idvT x++zdf xs
end
def Yo (G:EG):List (Nat×Nat)→List Nat
 | []=>[]
 | x :: r=>match Nat.beq x.2 (G x.1).ver && (G x.1).b.isSome with
  | true=>x.1 :: Yo G r
  | false=>Yo G r
def idsB:Option BD→List (Nat×Nat)
 | some (.rowx _ _ xs)=>zdf xs
 | some (.box _ xs)=>zdf xs
 | _=>[]
def zkh (G:EG):Nat→List Nat→List Nat→Option (List Nat)
 | 0,_,_=>none
 | m+1,[],seen=>some seen
 | m+1,i :: t,seen=>match zdm seen i with
  | true=>zkh G m t seen
  | false=>zkh G m (Yo G (idsB (G i).b)++t) (seen++[i])
theorem Jh {l:List Nat} {x:Nat}:zdm l x=true↔x∈l:=by
 unfold zdm
 rw[List.any_eq_true]
 constructor
 ·rintro⟨y,h,e⟩;rw[qn e];exact h
 ·exact fun h=>⟨x,h,Nat.beq_refl x⟩
def Yx (D:List Nat) (G:EG):EG:=fun id=>match zdm D id with
 | true=>G id
 | false=>⟨(G id).ver,none⟩
mutual
def scT:Ty→Bool
 | .int _=>true
 | .bool=>true
 | .str=>true
 | .arr _ t=>scT t
 | .nil=>true
 | .cons a r=>scT a && scT r
 | .st r=>scT r
 | .tup r=>scT r
 | _=>false
end
theorem z5u {t:Ty} {cs:List PV} (hl:cs.length=wid t) (h:∀ c∈cs,Sc c):Sc (mkV t cs):=by
 unfold mkV
 cases ha:Jq t with
 | true=>exact .agg _ h
 | false=>
  rw[zaz ha] at hl
  match cs,hl with
  | [c],_=>exact h c (by simp)
mutual
theorem zcp:∀(t:Ty) (x:t.D),scT t=true→∀ c∈encC t x,Sc c
 | .int k,x,h,c,hc=>by simp only[encC,List.mem_singleton] at hc;subst hc;exact .u _
 | .bool,x,h,c,hc=>by simp only[encC,List.mem_singleton] at hc;subst hc;exact .u _
 | .str,x,h,c,hc=>by simp only[encC,List.mem_singleton] at hc;subst hc;exact .u _
 | .sl _,x,h,c,hc=>by simp[scT] at h
 | .ref _,x,h,c,hc=>by simp[scT] at h
 | .arr n t,x,h,c,hc=>by
  simp only[scT] at h
  simp only[encC] at hc
  obtain⟨y,_,hy⟩:=List.mem_flatMap.1 hc
  exact zcp t y h c hy
 | .nil,x,h,c,hc=>by simp[encC] at hc
 | .cons a r,x,h,c,hc=>by
  simp only[scT,Bool.and_eq_true] at h
  simp only[encC,List.mem_append] at hc
  rcases hc with hc | hc
  ·exact zcp a x.1 h.1 c hc
  ·exact zcp r x.2 h.2 c hc
 | .st r,x,h,c,hc=>by
  simp only[scT] at h
  simp only[encC] at hc
  exact zcp r x h c hc
 | .tup r,x,h,c,hc=>by
  simp only[scT] at h
  simp only[encC,List.mem_singleton] at hc
  subst hc
  exact .tup _ (zr3 r x h)
theorem zr3:∀(r:Ty) (x:r.D),scT r=true→∀ p∈qx r (encC r x),Sc p
 | .int k,x,h,c,hc=>by simp[qx] at hc
 | .bool,x,h,c,hc=>by simp[qx] at hc
 | .str,x,h,c,hc=>by simp[qx] at hc
 | .sl _,x,h,c,hc=>by simp[qx] at hc
 | .ref _,x,h,c,hc=>by simp[qx] at hc
 | .arr n t,x,h,c,hc=>by simp[qx] at hc
 | .nil,x,h,c,hc=>by simp[qx] at hc
 | .st r,x,h,c,hc=>by simp[qx] at hc
 | .tup r,x,h,c,hc=>by simp[qx] at hc
 | .cons a r,x,h,c,hc=>by
  simp only[scT,Bool.and_eq_true] at h
  simp only[qx,encC] at hc
  rw[List.take_left' (jr a x.1),List.drop_left' (jr a x.1)] at hc
  rcases List.mem_cons.1 hc with rfl | hc
  ·exact z5u (jr a x.1) (zcp a x.1 h.1)
  ·exact zr3 r x.2 h.2 c hc
end
def rdV (G:EG):(ts:List Ty)→List TS→Option (DL ts)
 | [],[]=>some ()
 | [t],[x]=>yv G t x
 | t :: u :: ts,x :: xs=>match yv G t x with
  | none=>none
  | some a=>match rdV G (u :: ts) xs with
   | none=>none
   | some b=>some (a,b)
 | _,_=>none
theorem z0p {G:EG} {H:PHeap} (hG:∀ id,(G id).b.isSome=true→H (2*id)=j8 (G id)):∀ {ts:List Ty} {xs:List TS} {t:DL ts},rdV G ts xs=some t→ViewL H (vm xs) (pvs (za ts t))
 | [],xs,t,h=>by
  cases xs with
  | nil=>simp only[vm];exact ViewL.nil H
  | cons _ _=>simp[rdV] at h
 | [a],xs,t,h=>by
  match xs,h with
  | [x],h=>
   simp only[rdV] at h
   simp only[vm]
   exact ViewL.cons (Jo hG _ _ _ h).1 (ViewL.nil H)
  | [],h=>simp[rdV] at h
  | _ :: _ :: _,h=>simp[rdV] at h
 | a :: u :: ts,xs,t,h=>by
  cases xs with
  | nil=>simp[rdV] at h
  | cons x xs=>
   simp only[rdV] at h
   split at h<;>try (cases h;done)
   rename_i p hp
   split at h<;>cases h
   rename_i q hq
   simp only[vm]
   exact ViewL.cons (Jo hG _ _ _ hp).1 (z0p hG hq)
def zz3 (S:zz7) (E:EF) (G:EG) (c:Call):Option SR:=match zuy E c with
 | none=>none
 | some (f,az)=>match S f with
  | none=>none
  | some x=>match scT x.rt with
   | false=>none
   | true=>match zkh G 1000 (Yo G (zdf az)) [] with
    | none=>none
    | some D=>match rdV (Yx D G) x.ats az with
     | some t=>some (.dat x.rt.D (x.g t) (fun y => .v ⟨x.rt,y⟩) D)
     | none=>none
theorem z26 {P:Program} {o:Oper} {E:EF} {G:EG} {S:zz7} (hS:Jl P S) {c:Call} {q:SR} (ho:o.op = .call c) (h:zz3 S E G c=some q):SOk P o E G q:=by
 unfold zz3 at h
 split at h<;>try (cases h;done)
 rename_i f az ht
 split at h<;>try (cases h;done)
 rename_i x hx
 split at h<;>try (cases h;done)
 rename_i hsc
 split at h<;>try (cases h;done)
 rename_i D hD
 split at h<;>cases h
 rename_i t hrd
 obtain⟨hg,hc⟩:=hS f x hx
 refine SOk.dat fun r hr W F H hag=>?_
 have hv:=z0p (H:=H) (fun id hs=>by
  unfold Yx at *
  cases hm:zdm D id with
  | true=>exact hag.h id (Jh.1 hm)
  | false=>rw[hm] at hs;simp at hs) hrd
 simp only[TS.den]
 exact PQ.callA ho (zhc ho hag ht) hg hv (hc t r hr) (z5u (jr _ _) (zcp _ _ hsc))
end Go.Proofs.YtdllbdlnmjngcaaGreat.T

namespace Go.Proofs.YtdllbdlnmjngcaaGreat.T
open Go Go.RowKit Go.ChangeShapes Go.WideShapes L
set_option linter.unusedVariables false
set_option linter.unusedSimpArgs false
instance {n:Nat} {α:Type} [Inhabited α]:Inhabited (Arr n α):=⟨⟨List.replicate n default,List.length_replicate⟩⟩
def OkD:(t:Ty)→t.D→Prop
 | .int k,z=>OkI k z
 | .bool,_=>True
 | .str,s=>s.length≤maxLen
 | .sl t,l=>l.length≤maxLen∧∀ x∈l,OkD t x
 | .ref _,_=>True
 | .arr _ t,a=>∀ x∈a.l,OkD t x
 | .nil,_=>True
 | .cons a r,x=>OkD a x.1∧OkD r x.2
 | .st r,x=>OkD r x
 | .tup r,x=>True
section
variable {H : Type} {ec : TypeId × Value → H} {P : Program} {w : World} {base : Nat} {spare : Nat → Bool} {held : Bool}
abbrev OpenT (ec:TypeId×Value→H) (P:Program) (w:World) (base:Nat) (spare:Nat→Bool) (held:Bool) (t:TypeId) (y:Ty):Prop:=zkk ec P w base spare held t (enc y) (OkD y)
theorem op_int {t:TypeId} {k:IntKind} (ht:P.underlying t=some (.int k)):OpenT ec P w base spare held t (.int k):=z5f ht
theorem op_bool {t:TypeId} (ht:P.underlying t=some .bool):OpenT ec P w base spare held t .bool:=zzu ht
theorem op_str {t:TypeId} (ht:P.underlying t=some .string):OpenT ec P w base spare held t .str:=fun fuel cs x h=>by
 obtain⟨s,h1,h2⟩:=z4f ht fuel cs x h
 exact⟨s.data.toList,h1,h2⟩
theorem op_sl {t e:TypeId} {y:Ty} [Inhabited y.D] (ht:P.underlying t=some (.slice e)) (hk:P.cellsOf e=wid y) (hpos:0<wid y) (he:OpenT ec P w base spare held e y):OpenT ec P w base spare held t (.sl y):=fun fuel cs x h=>by
 obtain⟨l,h1,h2⟩:=z6o ht hk hpos (fun a=>by rw[enc_cells];exact jr y a) he fuel cs x h
 exact⟨l,h1,h2⟩
theorem op_arr {t e:TypeId} {n:Nat} {y:Ty} [Inhabited y.D] (ht:P.underlying t=some (.array n e)) (hk:P.cellsOf e=1) (hn:P.cellsOf t=n) (hc:∀ a:y.D,encC y a=[enc y a]) (he:OpenT ec P w base spare held e y):OpenT ec P w base spare held t (.arr n y):=fun fuel cs x h=>by
 obtain⟨a,h1,h2⟩:=z31 ht hk hn (fun a=>by rw[enc_cells,hc]) he fuel cs x h
 refine⟨⟨a.1,a.2⟩,?_,h2⟩
 have e:(enc (.arr n y) (⟨a.1,a.2⟩:Arr n y.D)).cells=(arV (n:=n) (enc y) a).cells:=by
  rw[enc_cells]
  show a.1.flatMap (encC y)=a.1.map (enc y)
  generalize a.1=l
  induction l with
  | nil=>rfl
  | cons b l ih=>rw[List.flatMap_cons,hc,ih];rfl
 rw[e]
 exact h1
end
theorem row_pure {f:FuncId} {ats:List Ty} {g:DL ats→Option Bool} (h:zvz Tryz.prog f ats .bool g) {t:DL ats} (hg:g t=some true) {w:World} {vs:List Value} (hr:RpL F0 PHeap.empty V0 w (pvs (za ats t)) vs):Calls Tryz.prog f vs.toArray w fun e w'=>e = .returned (.bool true)∧Below w.heap.size w w':=
 z42 (h.2 t true hg) hr
end Go.Proofs.YtdllbdlnmjngcaaGreat.T

namespace Go.Proofs.YtdllbdlnmjngcaaGreat
open Go Go.RowKit L
theorem Tot.for {σ α:Type} {body:Int×σ→G ((Int×σ) ⊕ α)} {Q:α→Prop} (N:Nat) (I:Nat→σ→Prop)
  (h:∀(k:Nat) s,k<N→I k s→Tot (body ((k:Int),s)) fun r=>match r with | .inl s'=>s'.1=((k+1:Nat):Int)∧I (k+1) s'.2 | .inr a=>Q a)
  (hN:∀ s,I N s→Tot (body ((N:Int),s)) fun r=>match r with | .inl _=>False | .inr a=>Q a) {s:σ} (h0:I 0 s):Tot (G.loop body (0,s)) Q:=by
 refine Tot.loop (fun s=>∃ k:Nat,s.1=(k:Int)∧k≤N∧I k s.2) (fun s=>N+1-s.1.toNat) ?_ ⟨0,rfl,Nat.zero_le _,h0⟩
 rintro⟨i,s⟩ ⟨k,hi,hk,hI⟩
 simp only at hi hI
 subst hi
 rcases Nat.lt_or_ge k N with hlt | hge
 ·refine(h k s hlt hI).mono fun r hr=>?_
  cases r with
  | inl s'=>
   obtain⟨h1,h2⟩:=hr
   refine⟨⟨k+1,h1,hlt,h2⟩,?_⟩
   show N+1-s'.1.toNat<N+1-((k:Nat):Int).toNat
   rw[h1]
   simp only[Int.toNat_natCast]
   omega
  | inr a=>exact hr
 ·have:k=N:=by omega
  subst this
  refine(hN s hI).mono fun r hr=>?_
  cases r with
  | inl s'=>exact hr.elim
  | inr a=>exact hr
theorem za1 {k:Nat} (h:k<9223372036854775807):w64 ((k:Int)+1)=((k+1:Nat):Int):=by
 unfold w64
 rw[zhm (by omega) (by omega)];rfl
theorem Tot.forC {σ α:Type} {body:σ→G (σ ⊕ α)} {Q:α→Prop} (c:σ→Int) (N:Nat) (I:Nat→σ→Prop) (hc:∀ k s,I k s→c s=(k:Int))
  (h:∀(k:Nat) s,k<N→I k s→Tot (body s) fun r=>match r with | .inl s'=>I (k+1) s' | .inr a=>Q a)
  (hN:∀ s,I N s→Tot (body s) fun r=>match r with | .inl _=>False | .inr a=>Q a) {s:σ} (h0:I 0 s):Tot (G.loop body s) Q:=by
 refine Tot.loop (fun s=>∃ k:Nat,k≤N∧I k s) (fun s=>N+1-(c s).toNat) ?_ ⟨0,Nat.zero_le _,h0⟩
 rintro s ⟨k,hk,hI⟩
 rcases Nat.lt_or_ge k N with hlt | hge
 ·refine(h k s hlt hI).mono fun r hr=>?_
  cases r with
  | inl s'=>
   refine⟨⟨k+1,hlt,hr⟩,?_⟩
   show N+1-(c s').toNat<N+1-(c s).toNat
   rw[hc _ _ hr,hc _ _ hI]
   simp only[Int.toNat_natCast]
   omega
  | inr a=>exact hr
 ·have:k=N:=by omega
  subst this
  refine(hN s hI).mono fun r hr=>?_
  cases r with
  | inl s'=>exact hr.elim
  | inr a=>exact hr
end Go.Proofs.YtdllbdlnmjngcaaGreat

namespace Go.Proofs.YtdllbdlnmjngcaaGreat
open Go Go.RowKit L
set_option linter.unusedVariables false
set_option linter.unusedSimpArgs false
inductive Rch (E:Nat→Nat→Prop) (S:Nat→Prop):Nat→Prop
 | base {i:Nat}:S i→Rch E S i
 | step {i j:Nat}:Rch E S i→E i j→Rch E S j
def onB (l:List Bool) (i:Nat):Prop:=l[i]? = some true
theorem onB_lt {l:List Bool} {i:Nat} (h:onB l i):i<l.length:=(List.getElem?_eq_some_iff.1 h).1
theorem z2n {l:List Bool} {i j:Nat} (hi:i<l.length):onB (l.set i true) j↔i=j∨onB l j:=by
 unfold onB
 by_cases h:i=j
 ·subst h;simp[List.getElem?_set_self hi]
 ·rw[List.getElem?_set_ne h];simp[h]
theorem z9y {n i:Nat}:¬ onB (List.replicate n false) i:=by
 unfold onB
 intro h
 obtain⟨h1,h2⟩:=List.getElem?_eq_some_iff.1 h
 simp at h2
def zdi (l:List Bool):Nat:=l.count false
theorem z2f (l:List Bool):zdi l≤l.length:=List.count_le_length
theorem zsr (b:Bool) (l:List Bool):zdi (b :: l)=zdi l+(if b then 0 else 1):=by
 unfold zdi;cases b<;>simp
theorem zzi:∀ {l:List Bool} {i:Nat},l[i]? = some false→zdi (l.set i true)+1=zdi l
 | [],i,h=>by simp at h
 | b :: l,0,h=>by
  simp at h;subst h
  simp[zsr]
 | b :: l,i+1,h=>by
  simp only[List.getElem?_cons_succ] at h
  have:=zzi h
  simp only[List.set_cons_succ,zsr];omega
def LeB (a b:List Bool):Prop:=a.length=b.length∧∀ i,onB a i→onB b i
theorem LeB.refl (a:List Bool):LeB a a:=⟨rfl,fun _ h=>h⟩
theorem LeB.trans {a b c:List Bool} (h:LeB a b) (h2:LeB b c):LeB a c:=⟨h.1.trans h2.1,fun i hi=>h2.2 i (h.2 i hi)⟩
theorem LeB.set {a:List Bool} {i:Nat} (hi:i<a.length):LeB a (a.set i true):=⟨by simp,fun j hj=>(z2n hi).2 (.inr hj)⟩
theorem ext_on {a b:List Bool} (hl:a.length=b.length) (h:∀ i,onB a i↔onB b i):a=b:=by
 refine List.ext_getElem hl fun i h1 h2=>?_
 have:=h i
 unfold onB at this
 rw[List.getElem?_eq_getElem h1,List.getElem?_eq_getElem h2] at this
 cases e1:a[i]<;>cases e2:b[i]<;>simp[e1,e2] at this<;>rfl
noncomputable def zuh (n:Nat) (E:Nat→Nat→Prop) (S:Nat→Prop):List Bool:=by
 classical exact(List.range n).map fun i=>decide (Rch E S i)
theorem zn5 (n:Nat) (E:Nat→Nat→Prop) (S:Nat→Prop):(zuh n E S).length=n:=by unfold zuh;simp
theorem z2z {n:Nat} {E:Nat→Nat→Prop} {S:Nat→Prop} {i:Nat}:onB (zuh n E S) i↔i<n∧Rch E S i:=by
 classical
 unfold onB zuh
 by_cases h:i<n
 ·simp[h]
 ·simp[h]
theorem ja6 {n:Nat} {E:Nat→Nat→Prop} {S:Nat→Prop} {l:List Bool} (hl:l.length=n) (hs:∀ i,onB l i→Rch E S i) (h1:∀ i,S i→onB l i) (h2:∀ i j,onB l i→E i j→onB l j):l=zuh n E S:=by
 refine ext_on (by rw[hl,zn5]) fun i=>⟨fun h=>z2z.2 ⟨hl▸onB_lt h,hs i h⟩,fun h=>?_⟩
 have:=(z2z.1 h).2
 clear h
 induction this with
 | base h=>exact h1 _ h
 | step _ h ih=>exact h2 _ _ ih h
end Go.Proofs.YtdllbdlnmjngcaaGreat

namespace Go.Proofs.YtdllbdlnmjngcaaGreat.T
open Go Go.RowKit L
set_option linter.unusedVariables false
set_option linter.unusedSimpArgs false
abbrev IdM:=Nat→Nat→Option (Nat×Nat)
mutual
def vp (φ:IdM):PV→PV
 | .ps id ver=>match φ id ver with
  | some x => .ps x.1 x.2
  | none => .unk
 | .qs id off k ver=>match φ id ver with
  | some x => .qs x.1 off k x.2
  | none => .unk
 | .pp id off ver=>match φ id ver with
  | some x => .pp x.1 off x.2
  | none => .unk
 | .fn f a b => .fn f (zbr φ a) (zbr φ b)
 | .agg xs => .agg (zbr φ xs)
 | .tup xs => .tup (zbr φ xs)
 | .u v => .u v
 | .unk => .unk
 | .sl k xs => .sl k xs
 | .fr t k xs => .fr t k xs
 | .rp xs => .rp xs
def zbr (φ:IdM):List PV→List PV
 | []=>[]
 | x :: xs=>vp φ x :: zbr φ xs
end
theorem ql (φ:IdM):∀ xs:List PV,zbr φ xs=xs.map (vp φ)
 | []=>by simp only[zbr,List.map_nil]
 | x :: xs=>by simp only[zbr,List.map_cons,ql φ xs]
theorem zbt {φ:IdM} {p:PV} (h:NoP p):vp φ p=p:=by
 induction h with
 | u v=>simp only[vp]
 | agg cs h ih=>simp only[vp,ql];rw[List.map_congr_left ih,List.map_id']
 | tup cs h ih=>simp only[vp,ql];rw[List.map_congr_left ih,List.map_id']
 | sl k xs h ih=>simp only[vp]
 | fr t k xs h ih=>simp only[vp]
 | rp xs h ih=>simp only[vp]
 | fn f a b ha hb iha ihb=>simp only[vp,ql];rw[List.map_congr_left iha,List.map_congr_left ihb,List.map_id',List.map_id']
theorem z1g (φ:IdM) (p:PV):(vp φ p).cells=p.cells.map (vp φ):=by
 cases p with
 | ps id ver=>simp only[vp,PV.cells,List.map_cons,List.map_nil];cases φ id ver<;>rfl
 | qs id off k ver=>simp only[vp,PV.cells,List.map_cons,List.map_nil];cases φ id ver<;>rfl
 | pp id off ver=>simp only[vp,PV.cells,List.map_cons,List.map_nil];cases φ id ver<;>rfl
 | _=>simp only[vp,PV.cells,List.map_cons,List.map_nil,ql]
section
variable {Z : ZM} {H H1 H2 : PHeap} {V V1 V2 : Nat → Value} {w w0 : World} {φ : IdM}
theorem Zr {p:PV} {v:Value} (h:Rp Z H V w p v) (hf:Fl p)
  (hz:∀ c,c<w.heap.size→¬ PZ Z H V c→¬ PZ Z H1 V1 c)
  (hk:∀ id ver x,φ id ver=some x→ver≤(H id).ver→x.2≤(H1 x.1).ver∧((H1 x.1).body.isSome=true→(H1 x.1).ver=x.2→(H id).body.isSome=true∧(H id).ver=ver∧V1 x.1=V id)):Rp Z H1 V1 w (vp φ p) v:=by
 induction h with
 | u v=>simp only[vp];exact .u v
 | unk v=>simp only[vp];exact .unk v
 | agg cs vs hl h ih=>
  simp only[vp,ql]
  refine .agg _ vs (by simp[hl]) fun i p v h1 h2=>?_
  rw[List.getElem?_map] at h1
  obtain⟨q,hq,rfl⟩:=Option.map_eq_some_iff.1 h1
  refine ih i q v hq h2 ?_
  cases hf with
  | noP hn=>cases hn with | agg _ k=>exact .noP (k q (List.mem_of_getElem? hq))
  | agg k=>exact k q (List.mem_of_getElem? hq)
 | tup cs vs hl h ih=>
  simp only[vp,ql]
  refine .tup _ vs (by simp[hl]) fun i p v h1 h2=>?_
  rw[List.getElem?_map] at h1
  obtain⟨q,hq,rfl⟩:=Option.map_eq_some_iff.1 h1
  refine ih i q v hq h2 ?_
  cases hf with
  | noP hn=>cases hn with | tup _ k=>exact .noP (k q (List.mem_of_getElem? hq))
  | tup k=>exact k q (List.mem_of_getElem? hq)
 | fn f a b va vb hla hlb ha hb iha ihb=>
  simp only[vp,ql]
  refine .fn f _ _ va vb (by simp[hla]) (by simp[hlb]) (fun i p v h1 h2=>?_) fun i p v h1 h2=>?_
  ·rw[List.getElem?_map] at h1
   obtain⟨q,hq,rfl⟩:=Option.map_eq_some_iff.1 h1
   refine iha i q v hq h2 ?_
   cases hf with
   | noP hn=>cases hn with | fn _ _ _ k1 k2=>exact .noP (k1 q (List.mem_of_getElem? hq))
   | fn k1 k2=>exact k1 q (List.mem_of_getElem? hq)
  ·rw[List.getElem?_map] at h1
   obtain⟨q,hq,rfl⟩:=Option.map_eq_some_iff.1 h1
   refine ihb i q v hq h2 ?_
   cases hf with
   | noP hn=>cases hn with | fn _ _ _ k1 k2=>exact .noP (k2 q (List.mem_of_getElem? hq))
   | fn k1 k2=>exact k2 q (List.mem_of_getElem? hq)
 | nil k a c=>simp only[vp];exact .nil k a c
 | sl k xs b' o c g hu hlen hz' hb' h1 h2 ih=>
  simp only[vp]
  cases hf with | noP hn=>exact Rp.noP (.sl k xs b' o c g hu hlen hz' hb' h1 h2) hn hz
 | fr t k xs v vals hu ho hz' h1 h2 ih=>
  simp only[vp]
  cases hf with | noP hn=>exact Rp.noP (.fr t k xs v vals hu ho hz' h1 h2) hn hz
 | rp cs b' o g hz' hb' h1 h2 ih=>
  simp only[vp]
  cases hf with | noP hn=>exact Rp.noP (.rp cs b' o g hz' hb' h1 h2) hn hz
 | ps id ver v hv h=>
  simp only[vp]
  split
  ·rename_i x hx
   obtain⟨k1,k2⟩:=hk id ver x hx hv
   exact .ps _ _ v k1 fun g1 g2=>by obtain⟨a,b,c⟩:=k2 g1 g2;rw[c];exact h a b
  ·exact .unk v
 | qs id off k ver v hv h=>
  simp only[vp]
  split
  ·rename_i x hx
   obtain⟨k1,k2⟩:=hk id ver x hx hv
   exact .qs _ _ _ _ v k1 fun g1 g2=>by obtain⟨a,b,c⟩:=k2 g1 g2;rw[c];exact h a b
  ·exact .unk v
 | pp id off ver v hv h=>
  simp only[vp]
  split
  ·rename_i x hx
   obtain⟨k1,k2⟩:=hk id ver x hx hv
   exact .pp _ _ _ v k1 fun g1 g2=>by obtain⟨a,b,c⟩:=k2 g1 g2;rw[c];exact h a b
  ·exact .unk v
inductive FlV (H:PHeap):PV→Prop
 | noP {p:PV} (h:NoP p):FlV H p
 | unk:FlV H .unk
 | ps {i ver:Nat} (h:ver≤(H i).ver):FlV H (.ps i ver)
 | qs {i off k ver:Nat} (h:ver≤(H i).ver):FlV H (.qs i off k ver)
 | pp {i off ver:Nat} (h:ver≤(H i).ver):FlV H (.pp i off ver)
 | fn {f:Fn} {x y:List PV} (hx:∀ p∈x,FlV H p) (hy:∀ p∈y,FlV H p):FlV H (.fn f x y)
 | agg {xs:List PV} (h:∀ p∈xs,FlV H p):FlV H (.agg xs)
 | tup {xs:List PV} (h:∀ p∈xs,FlV H p):FlV H (.tup xs)
theorem zm6 {α:Type} {xs:List α} {p:α} (h:p∈xs):∃ i:Nat,xs[i]? = some p:=by
 obtain⟨i,hi,e⟩:=List.mem_iff_getElem.1 h
 exact⟨i,by rw[List.getElem?_eq_getElem hi,e]⟩
theorem zu1 {p : PV} {v : Value} (h : Rp Z H V w p v) (hf : Fl p) : FlV H p := by
  induction h with
  | u v => exact .noP (.u v)
  | unk v => exact .unk
  | agg cs vs hl h ih =>
    cases hf with
    | noP hn => exact .noP hn
    | agg k => refine .agg fun p hp => ?_
               obtain ⟨i, hi⟩ := zm6 hp
               have hlt : i < vs.size := by rw [← hl]; exact (List.getElem?_eq_some_iff.1 hi).1
               exact ih i p _ hi (Array.getElem?_eq_getElem hlt) (k p hp)
  | tup cs vs hl h ih =>
    cases hf with
    | noP hn => exact .noP hn
    | tup k => refine .tup fun p hp => ?_
               obtain ⟨i, hi⟩ := zm6 hp
               have hlt : i < vs.size := by rw [← hl]; exact (List.getElem?_eq_some_iff.1 hi).1
               exact ih i p _ hi (Array.getElem?_eq_getElem hlt) (k p hp)
  | fn f a b va vb hla hlb ha hb iha ihb =>
    cases hf with
    | noP hn => exact .noP hn
    | fn k1 k2 =>
      refine .fn (fun p hp => ?_) fun p hp => ?_
      · obtain ⟨i, hi⟩ := zm6 hp
        have hlt : i < va.size := by rw [← hla]; exact (List.getElem?_eq_some_iff.1 hi).1
        exact iha i p _ hi (Array.getElem?_eq_getElem hlt) (k1 p hp)
      · obtain ⟨i, hi⟩ := zm6 hp
        have hlt : i < vb.size := by rw [← hlb]; exact (List.getElem?_eq_some_iff.1 hi).1
        exact ihb i p _ hi (Array.getElem?_eq_getElem hlt) (k2 p hp)
  | nil k a c => exact .noP (.sl k [] fun c hc => by cases hc)
  | sl k xs b' o c g hu hlen hz' hb' h1 h2 ih => cases hf with | noP hn => exact .noP hn
  | fr t k xs v vals hu ho hz' h1 h2 ih => cases hf with | noP hn => exact .noP hn
  | rp cs b' o g hz' hb' h1 h2 ih => cases hf with | noP hn => exact .noP hn
  | ps id ver v hv h => exact .ps hv
  | qs id off k ver v hv h => exact .qs hv
  | pp id off ver v hv h => exact .pp hv
def Back (φ:IdM) (H H1 H2:PHeap) (V1 V2:Nat→Value):Prop:=∀ id ver,ver≤(H id).ver→ver≤(H2 id).ver∧((H2 id).body.isSome=true→(H2 id).ver=ver→∃ x,φ id ver=some x∧(H1 x.1).body.isSome=true∧(H1 x.1).ver=x.2∧V2 id=V1 x.1)
theorem z8x {p:PV} {v:Value} (hf:FlV H p) (h:Rp Z H1 V1 w (vp φ p) v) (hz:∀ c,c<w.heap.size→¬ PZ Z H1 V1 c→¬ PZ Z H2 V2 c) (hk:Back φ H H1 H2 V1 V2):Rp Z H2 V2 w p v:=by
 induction hf generalizing v with
 | noP hn=>rw[zbt hn] at h;exact Rp.noP h hn hz
 | unk=>exact .unk v
 | ps hv=>
  rename_i i ver
  obtain⟨k1,k2⟩:=hk i ver hv
  refine .ps _ _ v k1 fun g1 g2=>?_
  obtain⟨x,hx,a,b,c⟩:=k2 g1 g2
  simp only[vp,hx] at h
  cases h with | ps _ _ _ _ h=>rw[c];exact h a b
 | qs hv=>
  rename_i i off k ver
  obtain⟨k1,k2⟩:=hk i ver hv
  refine .qs _ _ _ _ v k1 fun g1 g2=>?_
  obtain⟨x,hx,a,b,c⟩:=k2 g1 g2
  simp only[vp,hx] at h
  cases h with | qs _ _ _ _ _ _ h=>rw[c];exact h a b
 | pp hv=>
  rename_i i off ver
  obtain⟨k1,k2⟩:=hk i ver hv
  refine .pp _ _ _ v k1 fun g1 g2=>?_
  obtain⟨x,hx,a,b,c⟩:=k2 g1 g2
  simp only[vp,hx] at h
  cases h with | pp _ _ _ _ _ h=>rw[c];exact h a b
 | fn hx hy ih1 ih2=>
  simp only[vp,ql] at h
  cases h with
  | fn _ _ _ va vb hla hlb ha hb=>
   simp only[List.length_map] at hla hlb
   refine .fn _ _ _ va vb hla hlb (fun i p u h1 h2=>ih1 p (List.mem_of_getElem? h1) (ha i _ u (by rw[List.getElem?_map,h1];rfl) h2)) fun i p u h1 h2=>ih2 p (List.mem_of_getElem? h1) (hb i _ u (by rw[List.getElem?_map,h1];rfl) h2)
 | agg hx ih=>
  simp only[vp,ql] at h
  cases h with
  | agg _ vs hl h=>
   simp only[List.length_map] at hl
   exact .agg _ vs hl fun i p u h1 h2=>ih p (List.mem_of_getElem? h1) (h i _ u (by rw[List.getElem?_map,h1];rfl) h2)
 | tup hx ih=>
  simp only[vp,ql] at h
  cases h with
  | tup _ vs hl h=>
   simp only[List.length_map] at hl
   exact .tup _ vs hl fun i p u h1 h2=>ih p (List.mem_of_getElem? h1) (h i _ u (by rw[List.getElem?_map,h1];rfl) h2)
theorem Z8 {cs:List PV} {vs:List Value} (h:RpL Z H V w cs vs) (hm:∀ c∈cs,∀ v,Rp Z H V w c v→Rp Z H1 V1 w (vp φ c) v):RpL Z H1 V1 w (zbr φ cs) vs:=⟨by rw[ql,List.length_map];exact h.1,fun i p v h1 h2=>by
 rw[ql,List.getElem?_map] at h1
 obtain⟨q,hq,rfl⟩:=Option.map_eq_some_iff.1 h1
 exact hm q (List.mem_of_getElem? hq) v (h.2 i q v hq h2)⟩
theorem ztu {cs:List PV} {vs:List Value} (hf:∀ c∈cs,FlV H c) (h:RpL Z H1 V1 w (zbr φ cs) vs) (hz:∀ c,c<w.heap.size→¬ PZ Z H1 V1 c→¬ PZ Z H2 V2 c) (hk:Back φ H H1 H2 V1 V2):RpL Z H2 V2 w cs vs:=⟨by have:=h.1;rw[ql,List.length_map] at this;exact this,fun i p v h1 h2=>by
 refine z8x (hf p (List.mem_of_getElem? h1)) (h.2 i _ v ?_ h2) hz hk
 rw[ql,List.getElem?_map,h1];rfl⟩
inductive BTr (Z:ZM) (H1 H2:PHeap) (V1 V2:Nat→Value) (w:World):PBody→PBody→Prop
 | row {t:TypeId} {k n:Nat} {cs cs':List PV} (h:∀ vs,RpL Z H1 V1 w cs vs→RpL Z H2 V2 w cs' vs):BTr Z H1 H2 V1 V2 w (.row t k n cs) (.row t k n cs')
 | box {t:TypeId} {cs cs':List PV} (h:∀ vs,RpL Z H1 V1 w cs vs→RpL Z H2 V2 w cs' vs):BTr Z H1 H2 V1 V2 w (.box t cs) (.box t cs')
 | raw {p:Bool} {φ:Nat→Obj→List Value→Prop} {cs cs':List PV} (h:∀ vs,RpL Z H1 V1 w cs vs→RpL Z H2 V2 w cs' vs):BTr Z H1 H2 V1 V2 w (.raw p cs φ) (.raw p cs' φ)
theorem z50 (hl:∀ id,(H2 id).body.isSome=true→∃ i,(H1 i).body.isSome=true∧V2 id=V1 i) {c:Nat} (h:¬ PZ Z H1 V1 c):¬ PZ Z H2 V2 c:=by
 rintro(h2 | ⟨id,h2,h3⟩)
 ·exact h (.inl h2)
 ·obtain⟨i,h4,e⟩:=hl id h2
  exact h (.inr ⟨i,h4,by rw[← e];exact h3⟩)
theorem HRel.ren {P:Program} {W W2:Env} (hr:HRel P W H1 V1 w) (σ:Nat→Nat) (hw:W2.w=W.w) (hZ:W2.Z=W.Z) (hg:∀ i,Rp W.Z H2 V2 w (W2.G i) (W2.gv i))
  (hl:∀ id bd,(H2 id).body=some bd→∃ bd1,(H1 (σ id)).body=some bd1∧V2 id=V1 (σ id)∧BTr W.Z H1 H2 V1 V2 w bd1 bd)
  (hi:∀ id id',(H2 id).body.isSome=true→(H2 id').body.isSome=true→σ id=σ id'→id=id'):HRel P W2 H2 V2 w:=by
 have hl':∀ id,(H2 id).body.isSome=true→(H1 (σ id)).body.isSome=true∧V2 id=V1 (σ id):=fun id h=>by
  obtain⟨bd,hb⟩:=Option.isSome_iff_exists.1 h
  obtain⟨bd1,h1,h2,_⟩:=hl id bd hb
  exact⟨by rw[h1];rfl,h2⟩
 refine⟨by rw[hw];exact hr.below,fun id t k n cs hb=>?_,fun id t cs hb=>?_,fun id p cs φ hb=>?_,fun i=>by rw[hZ];exact hg i,fun id id' g h1 h2 h3 h4=>?_,by rw[hZ];exact hr.zlt,fun id b h1 h2=>?_⟩
 ·obtain⟨bd1,h1,h2,h3⟩:=hl id _ hb
  cases h3 with
  | row h3=>
   obtain⟨vals,k1,k2,k3⟩:=hr.row _ _ _ _ _ h1
   rw[hw,hZ]
   exact⟨vals,by rw[h2];exact k1,h3 _ k2,k3⟩
 ·obtain⟨bd1,h1,h2,h3⟩:=hl id _ hb
  cases h3 with
  | box h3=>
   obtain⟨g,arr,k1,k2,k3,k4,k5⟩:=hr.box _ _ _ h1
   rw[hw,hZ]
   exact⟨g,arr,by rw[h2];exact k1,k2,k3,h3 _ k4,k5⟩
 ·obtain⟨bd1,h1,h2,h3⟩:=hl id _ hb
  cases h3 with
  | raw h3=>
   obtain⟨g,o,vs,k1,k2,k3,k4,k5⟩:=hr.map _ _ _ _ h1
   rw[hw,hZ]
   exact⟨g,o,vs,by rw[h2];exact k1,k2,k3,k4,h3 _ k5⟩
 ·obtain⟨a1,a2⟩:=hl' id h1
  obtain⟨b1,b2⟩:=hl' id' h2
  exact hi id id' h1 h2 (hr.apart _ _ g a1 b1 (by rw[← a2];exact h3) (by rw[← b2];exact h4))
 ·obtain⟨a1,a2⟩:=hl' id h1
  rw[hZ]
  exact hr.nz _ b a1 (by rw[← a2];exact h2)
end
end Go.Proofs.YtdllbdlnmjngcaaGreat.T

namespace Go.Proofs.YtdllbdlnmjngcaaGreat.T
open Go Go.RowKit L
set_option linter.unusedVariables false
set_option linter.unusedSimpArgs false
abbrev IdT:=Nat→Nat→Option (Nat×Nat)
mutual
def zbp (μ:IdT):TS→TS
 | .own id ver=>match μ id ver with
  | some x => .own x.1 x.2
  | none => .dead
 | .q id k off ver=>match μ id ver with
  | some x => .q x.1 k off x.2
  | none => .dead
 | .pt id off ver=>match μ id ver with
  | some x => .pt x.1 off x.2
  | none => .dead
 | .elt id k i off ver=>match μ id ver with
  | some x => .elt x.1 k i off x.2
  | none => .dead
 | .fn f a b => .fn f (J7 μ a) (J7 μ b)
 | .agg xs => .agg (J7 μ xs)
 | .tup xs => .tup (J7 μ xs)
 | .v d => .v d
 | .c v => .c v
 | .rd d => .rd d
 | .dead => .dead
def J7 (μ:IdT):List TS→List TS
 | []=>[]
 | x :: xs=>zbp μ x :: J7 μ xs
end
def zbm (μ:IdT):BD→BD
 | .row tid t l => .row tid t l
 | .rowx tid k xs => .rowx tid k (J7 μ xs)
 | .box tid xs => .box tid (J7 μ xs)
 | .obj k x => .obj k x
def zb6 (μ:IdT):IdM:=fun y ver=>if y % 2=0 then (μ (y / 2) ver).map fun x=>(2*x.1,x.2) else none
theorem zad (μ:IdT) (i ver:Nat):zb6 μ (2*i) ver=(μ i ver).map fun x=>(2*x.1,x.2):=by
 unfold zb6
 rw[if_pos (by omega),show 2*i / 2=i by omega]
mutual
theorem znv (μ:IdT):∀ s:TS,(zbp μ s).den=vp (zb6 μ) s.den
 | .v d=>by simp only[zbp,TS.den];exact(zbt (J1 _ _)).symm
 | .c v=>by simp only[zbp,TS.den];exact(zbt (zc2 v)).symm
 | .own id ver=>by simp only[zbp,TS.den,vp,zad];cases μ id ver<;>simp[TS.den]
 | .q id k off ver=>by simp only[zbp,TS.den,vp,zad];cases μ id ver<;>simp[TS.den]
 | .pt id off ver=>by simp only[zbp,TS.den,vp,zad];cases μ id ver<;>simp[TS.den]
 | .elt id k i off ver=>by simp only[zbp,TS.den,vp,zad];cases μ id ver<;>simp[TS.den]
 | .rd d=>by simp only[zbp,TS.den];exact(zbt (.rp _ (vi _ _))).symm
 | .dead=>by simp only[zbp,TS.den,vp]
 | .fn f a b=>by simp only[zbp,TS.den,vp,zb2 μ a,zb2 μ b,ql]
 | .agg xs=>by simp only[zbp,TS.den,vp,zc4 μ xs,ql]
 | .tup xs=>by simp only[zbp,TS.den,vp,zb2 μ xs,ql]
theorem zb2 (μ:IdT):∀ xs:List TS,vm (J7 μ xs)=(vm xs).map (vp (zb6 μ))
 | []=>by simp only[J7,vm,List.map_nil]
 | x :: xs=>by simp only[J7,vm,List.map_cons,znv μ x,zb2 μ xs]
theorem zc4 (μ:IdT):∀ xs:List TS,jq (J7 μ xs)=(jq xs).map (vp (zb6 μ))
 | []=>by simp only[J7,jq,List.map_nil]
 | x :: xs=>by simp only[J7,jq,List.map_append,znv μ x,zc4 μ xs,z1g]
end
theorem zi1 (μ:IdT):∀ xs:List TS,(J7 μ xs).length=xs.length
 | []=>by simp only[J7]
 | x :: xs=>by simp only[J7,List.length_cons,zi1 μ xs]
def zh2 (φm:IdM):PBody→PBody
 | .row t k n cs => .row t k n (zbr φm cs)
 | .box t cs => .box t (zbr φm cs)
 | .raw p cs φ => .raw p (zbr φm cs) φ
def zf1 (φ:IdM) (x:Qc):Qc:=⟨x.ver,x.body.map (zh2 φ)⟩
def zlw:List Nat→Nat→Nat→Option Nat
 | [],_,_=>none
 | a :: r,i,j=>match Nat.beq a i with
  | true=>some j
  | false=>zlw r i (j+1)
theorem zep:∀ {L:List Nat} {i j X:Nat},zlw L i j=some X→∃ m,X=j+m∧L[m]? = some i
 | [],i,j,X,h=>by cases h
 | a :: r,i,j,X,h=>by
  simp only[zlw] at h
  split at h
  ·rename_i hb
   cases h
   exact⟨0,rfl,by rw[List.getElem?_cons_zero,qn hb]⟩
  ·obtain⟨m,h1,h2⟩:=zep h
   exact⟨m+1,by omega,by rw[List.getElem?_cons_succ];exact h2⟩
theorem zen:∀ {L:List Nat} {i j:Nat},zlw L i j=none→i∉L
 | [],i,j,h=>by simp
 | a :: r,i,j,h=>by
  simp only[zlw] at h
  split at h
  ·cases h
  ·rename_i hb
   simp only[List.mem_cons,not_or]
   refine⟨fun e=>?_,zen h⟩
   subst e;rw[Nat.beq_refl] at hb;cases hb
theorem zhx {L:List Nat} (hn:L.Nodup) {X i:Nat} (h:L[X]? = some i):zlw L i 0=some X:=by
 cases hp:zlw L i 0 with
 | none=>exact absurd (List.mem_of_getElem? h) (zen hp)
 | some Y=>
  obtain⟨m,rfl,h2⟩:=zep hp
  have h1:=(List.getElem?_eq_some_iff.1 h)
  have h3:=(List.getElem?_eq_some_iff.1 h2)
  have:=(List.getElem_inj (h₀:=h1.1) (h₁:=h3.1) hn).1 (by rw[h1.2,h3.2])
  simp[this]
def mu1 (L:List Nat) (lim:Nat) (G:EG):IdT:=fun i ver=>match zlw L i 0 with
 | some X=>match Nat.blt X lim && Nat.beq ver (G i).ver with
  | true=>some (X,1)
  | false=>none
 | none=>none
theorem z70 {L:List Nat} {lim:Nat} {G:EG} {i ver:Nat} {x:Nat×Nat} (h:mu1 L lim G i ver=some x):L[x.1]? = some i∧x.1<lim∧ver=(G i).ver∧x.2=1:=by
 unfold mu1 at h
 split at h<;>try (cases h;done)
 rename_i X hX
 split at h<;>cases h
 rename_i hb
 simp only[Bool.and_eq_true,Nat.blt_eq] at hb
 obtain⟨m,h1,h2⟩:=zep hX
 exact⟨by rw[h1,Nat.zero_add];exact h2,hb.1,qn hb.2,rfl⟩
def zcw (L:List Nat) (y:Nat):Bool:=Nat.beq (y % 2) 0 && (zlw L (y / 2) 0).isSome
def phG (L:List Nat) (b:Nat) (G:EG):IdM:=fun y ver=>match zcw L y with
 | true=>zb6 (mu1 L b G) y ver
 | false=>some (2*y+1,ver)
def inG (L:List Nat) (G:EG):EG:=fun X=>match L[X]? with
 | some i=>⟨1,(G i).b.map (zbm (mu1 L L.length G))⟩
 | none=>⟨0,none⟩
def inR (L:List Nat) (b:Nat) (G:EG) (H:PHeap):PHeap:=fun y=>match zcw L y with
 | true=>⟨0,none⟩
 | false=>zf1 (phG L b G) (H y)
theorem zeq {L:List Nat} {i:Nat} (h:i∈L):zcw L (2*i)=true:=by
 unfold zcw
 rw[show 2*i / 2=i by omega,show 2*i % 2=0 by omega]
 cases hp:zlw L i 0 with
 | none=>exact absurd h (zen hp)
 | some X=>rfl
theorem zr8 {L:List Nat} {lim:Nat} {G:EG} {y ver:Nat} {x:Nat×Nat} (h:zb6 (mu1 L lim G) y ver=some x):∃ X i:Nat,y=2*i∧x=(2*X,1)∧L[X]? = some i∧X<lim∧ver=(G i).ver:=by
 unfold zb6 at h
 split at h<;>try (cases h;done)
 rename_i hy
 obtain⟨z,hz,rfl⟩:=Option.map_eq_some_iff.1 h
 obtain⟨h1,h2,h3,h4⟩:=z70 hz
 exact⟨z.1,y / 2,by omega,by rw[h4],h1,h2,h3⟩
section
variable {P : Program} {W : Env} {n : Nat} {L : List Nat} {b : Nat} {G : EG} {H : PHeap} {V : Nat → Value} {w : World} {F : PFrame}
def inV (L:List Nat) (V:Nat→Value):Nat→Value:=fun z=>if z % 2=0 then (match L[z / 2]? with
 | some i=>V (2*i)
 | none=>undef) else V (z / 2)
def inS (L:List Nat):Nat→Nat:=fun z=>if z % 2=0 then 2*(L[z / 2]?).getD 0 else z / 2
theorem Yl {X i:Nat} (h:L[X]? = some i):inV L V (2*X)=V (2*i)∧inS L (2*X)=2*i:=by
 unfold inV inS
 rw[if_pos (by omega),if_pos (by omega),show 2*X / 2=X by omega,h];exact⟨rfl,rfl⟩
theorem zcl (y:Nat):inV L V (2*y+1)=V y∧inS L (2*y+1)=y:=by
 unfold inV inS
 rw[if_neg (by omega),if_neg (by omega),show(2*y+1) / 2=y by omega];exact⟨rfl,rfl⟩
theorem zgl (hag:∀ i∈L,H (2*i)=j8 (G i)) {z:Nat} {bd:PBody} (h:(j5 (inG L G) (inR L b G H) z).body=some bd) :
  (∃ X i b0,z=2*X∧L[X]? = some i∧(G i).b=some b0∧bd=(zbm (mu1 L L.length G) b0).den)∨∃ y bd0,z=2*y+1∧zcw L y=false∧(H y).body=some bd0∧bd=zh2 (phG L b G) bd0:=by
 rcases Nat.mod_two_eq_zero_or_one z with e | e
 ·obtain⟨X,rfl⟩:∃ X,z=2*X:=⟨z / 2,by omega⟩
  rw[j0] at h
  unfold inG at h
  split at h
  ·rename_i i hi
   simp only[j8,Option.map_eq_some_iff] at h
   obtain⟨a,⟨b0,h1,rfl⟩,rfl⟩:=h
   exact .inl ⟨X,i,b0,rfl,hi,h1,rfl⟩
  ·simp[j8] at h
 ·obtain⟨y,rfl⟩:∃ y,z=2*y+1:=⟨z / 2,by omega⟩
  rw[yg] at h
  unfold inR at h
  split at h
  ·cases h
  ·rename_i hp
   simp only[zf1,Option.map_eq_some_iff] at h
   obtain⟨bd0,h1,rfl⟩:=h
   exact .inr ⟨y,bd0,rfl,hp,h1,rfl⟩
theorem BD_fl (b0:BD):∀ c∈zfn b0.den,Fl c:=fun c hc=>zs4 ⟨0,some b0⟩ b0.den rfl c hc
theorem zm4 {Z:ZM} {H1 H2:PHeap} {V1 V2:Nat→Value} {w:World} {μ:IdT} (hm:∀ p v,Fl p→Rp Z H1 V1 w p v→Rp Z H2 V2 w (vp (zb6 μ) p) v) (b0:BD):BTr Z H1 H2 V1 V2 w b0.den (zbm μ b0).den:=by
 have hf:=BD_fl b0
 cases b0 with
 | row tid t l=>
  refine .row fun vs hv=>?_
  have:=Z8 (φ:=zb6 μ) hv fun c hc v h=>hm c v (hf c hc) h
  rw[ql,List.map_congr_left (g:=id) fun c hc=>?_] at this
  ·simpa using this
  ·obtain⟨x,_,hx⟩:=List.mem_flatMap.1 hc
   exact zbt (vi t x c hx)
 | rowx tid k xs=>
  simp only[zbm,BD.den,zi1]
  refine .row fun vs hv=>?_
  rw[zc4,← ql]
  exact Z8 hv fun c hc v h=>hm c v (hf c hc) h
 | box tid xs=>
  simp only[zbm,BD.den]
  refine .box fun vs hv=>?_
  rw[zc4,← ql]
  exact Z8 hv fun c hc v h=>hm c v (hf c hc) h
 | obj k x=>
  obtain⟨p,φ,e⟩:=k.den_raw x
  simp only[zbm,BD.den,e]
  exact .raw fun vs h=>⟨h.1,fun i p v h1=>by simp at h1⟩
theorem zed (hag:∀ i∈L,H (2*i)=j8 (G i)) {z:Nat} (h:(j5 (inG L G) (inR L b G H) z).body.isSome=true):(H (inS L z)).body.isSome=true∧inV L V z=V (inS L z):=by
 obtain⟨bd,hb⟩:=Option.isSome_iff_exists.1 h
 rcases zgl hag hb with ⟨X,i,b0,rfl,hi,h1,rfl⟩ | ⟨y,bd0,rfl,hp,h1,rfl⟩
 ·rw[(Yl (V:=V) hi).1,(Yl (V:=V) hi).2,hag i (List.mem_of_getElem? hi)]
  simp[j8,h1]
 ·rw[(zcl (L:=L) (V:=V) y).1,(zcl (L:=L) (V:=V) y).2,h1];simp
theorem zso (hag:∀ i∈L,H (2*i)=j8 (G i)):∀ c,c<w.heap.size→¬ PZ W.Z H V c→¬ PZ W.Z (j5 (inG L G) (inR L b G H)) (inV L V) c:=fun c _ h=>
 z50 (fun z hz=>⟨_,(zed (V:=V) hag hz).1,(zed (V:=V) hag hz).2⟩) h
theorem z7i {lim:Nat} (hag:∀ i∈L,H (2*i)=j8 (G i)):∀ id ver x,zb6 (mu1 L lim G) id ver=some x→ver≤(H id).ver→x.2≤(j5 (inG L G) (inR L b G H) x.1).ver∧((j5 (inG L G) (inR L b G H) x.1).body.isSome=true→(j5 (inG L G) (inR L b G H) x.1).ver=x.2→(H id).body.isSome=true∧(H id).ver=ver∧inV L V x.1=V id):=fun id ver x h hv=>by
 obtain⟨X,i,rfl,rfl,hi,_,rfl⟩:=zr8 h
 have e:j5 (inG L G) (inR L b G H) (2*X)=j8 ⟨1,(G i).b.map (zbm (mu1 L L.length G))⟩:=by
  rw[j0];unfold inG;rw[hi]
 simp only[e]
 refine⟨Nat.le_refl _,fun h1 _=>?_⟩
 have:=zed (b:=b) (V:=V) hag (z:=2*X) (by rw[e];exact h1)
 rw[(Yl (V:=V) hi).1,(Yl (V:=V) hi).2] at this
 rw[(Yl (V:=V) hi).1]
 exact⟨this.1,by rw[hag i (List.mem_of_getElem? hi)];rfl,rfl⟩
theorem z1x (hag:∀ i∈L,H (2*i)=j8 (G i)):∀ id ver x,phG L b G id ver=some x→ver≤(H id).ver→x.2≤(j5 (inG L G) (inR L b G H) x.1).ver∧((j5 (inG L G) (inR L b G H) x.1).body.isSome=true→(j5 (inG L G) (inR L b G H) x.1).ver=x.2→(H id).body.isSome=true∧(H id).ver=ver∧inV L V x.1=V id):=fun id ver x h hv=>by
 unfold phG at h
 split at h
 ·exact z7i hag id ver x h hv
 ·rename_i hp
  cases h
  have e:j5 (inG L G) (inR L b G H) (2*id+1)=zf1 (phG L b G) (H id):=by
   rw[yg];unfold inR;rw[hp]
  simp only[e]
  refine⟨hv,fun h1 h2=>⟨?_,h2,(zcl (L:=L) (V:=V) id).1⟩⟩
  have:=zed (b:=b) (V:=V) hag (z:=2*id+1) (by rw[e];exact h1)
  rw[(zcl (L:=L) (V:=V) id).2] at this
  exact this.1
theorem z29 (φ:IdM) (bd:PBody):zfn (zh2 φ bd)=(zfn bd).map (vp φ):=by
 cases bd<;>simp only[zh2,zfn,ql,List.map_nil]
theorem zrg {p:PV} (hf:Fl p):IdOk b (vp (phG L b G) p):=by
 have hid:∀ i ver x,phG L b G i ver=some x→x.1 % 2=1∨x.1<2*b:=fun i ver x h=>by
  unfold phG at h
  split at h
  ·obtain⟨X,j,rfl,rfl,hi,hlt,_⟩:=zr8 h
   exact .inr (by show 2*X<2*b;omega)
  ·cases h;exact .inl (by show(2*i+1) % 2=1;omega)
 induction hf with
 | noP h=>rw[zbt h];exact .noP h
 | unk=>exact .unk
 | ps=>
  simp only[vp]
  split
  ·rename_i x hx;exact .ps (hid _ _ _ hx)
  ·exact .unk
 | qs=>
  simp only[vp]
  split
  ·rename_i x hx;exact .qs (hid _ _ _ hx)
  ·exact .unk
 | pp=>
  simp only[vp]
  split
  ·rename_i x hx;exact .pp (hid _ _ _ hx)
  ·exact .unk
 | fn hx hy ih1 ih2=>
  simp only[vp,ql]
  exact .fn (fun p hp=>by obtain⟨q,hq,rfl⟩:=List.mem_map.1 hp;exact ih1 q hq) fun p hp=>by obtain⟨q,hq,rfl⟩:=List.mem_map.1 hp;exact ih2 q hq
 | agg h ih=>
  simp only[vp,ql]
  exact .agg fun p hp=>by obtain⟨q,hq,rfl⟩:=List.mem_map.1 hp;exact ih q hq
 | tup h ih=>
  simp only[vp,ql]
  exact .tup fun p hp=>by obtain⟨q,hq,rfl⟩:=List.mem_map.1 hp;exact ih q hq
theorem inR_ok (hfl:∀ k,FlB (H k)):RestOk b (inR L b G H):=fun y bd h c hc=>by
 unfold inR at h
 split at h
 ·cases h
 ·simp only[zf1,Option.map_eq_some_iff] at h
  obtain⟨bd0,h1,rfl⟩:=h
  rw[z29] at hc
  obtain⟨q,hq,rfl⟩:=List.mem_map.1 hc
  exact zrg (hfl y bd0 h1 q hq)
theorem jbi (hn:L.Nodup) (hag:∀ i∈L,H (2*i)=j8 (G i)) {W0:Env} (hr:HRel P W0 H V w) (hf0:∀ i,Fl (W0.G i)) (hfl:∀ k,FlB (H k)) :
  HRel P { W0 with G:=fun i=>vp (phG L b G) (W0.G i) } (j5 (inG L G) (inR L b G H)) (inV L V) w:=by
 refine HRel.ren hr (inS L) rfl rfl (fun i=>Zr (hr.ghost i) (hf0 i) (zso hag) (z1x hag)) (fun z bd hb=>?_) fun z z' h1 h2 e=>?_
 ·have hal:=zed (b:=b) (V:=V) hag (z:=z) (by rw[hb];rfl)
  rcases zgl hag hb with ⟨X,i,b0,rfl,hi,h1,rfl⟩ | ⟨y,bd0,rfl,hp,h1,rfl⟩
  ·refine⟨b0.den,?_,hal.2,zm4 (fun p v hp hv=>Zr hv hp (zso hag) (z7i hag)) b0⟩
   rw[(Yl (V:=V) hi).2,hag i (List.mem_of_getElem? hi)];simp[j8,h1]
  ·refine⟨bd0,by rw[(zcl (L:=L) (V:=V) y).2];exact h1,hal.2,?_⟩
   have hc:=hfl y bd0 h1
   cases bd0 with
   | row t k m cs=>exact .row fun vs hv=>Z8 hv fun c hc' v h=>Zr h (hc c hc') (zso hag) (z1x hag)
   | box t cs=>exact .box fun vs hv=>Z8 hv fun c hc' v h=>Zr h (hc c hc') (zso hag) (z1x hag)
   | raw p cs φ=>exact .raw fun vs hv=>Z8 hv fun c hc' v h=>Zr h (hc c hc') (zso hag) (z1x hag)
 ·obtain⟨bd,hb⟩:=Option.isSome_iff_exists.1 h1
  obtain⟨bd',hb'⟩:=Option.isSome_iff_exists.1 h2
  rcases zgl hag hb with ⟨X,i,b0,rfl,hi,_,_⟩ | ⟨y,bd0,rfl,hp,_,_⟩
  ·rcases zgl hag hb' with ⟨X',i',b0',rfl,hi',_,_⟩ | ⟨y',bd0',rfl,hp',_,_⟩
   ·rw[(Yl (V:=V) hi).2,(Yl (V:=V) hi').2] at e
    have:i=i':=by omega
    subst this
    have h3:=zhx hn hi
    rw[zhx hn hi'] at h3
    cases h3;rfl
   ·rw[(Yl (V:=V) hi).2,(zcl (L:=L) (V:=V) y').2] at e
    subst e
    rw[zeq (List.mem_of_getElem? hi)] at hp';cases hp'
  ·rcases zgl hag hb' with ⟨X',i',b0',rfl,hi',_,_⟩ | ⟨y',bd0',rfl,hp',_,_⟩
   ·rw[(zcl (L:=L) (V:=V) y).2,(Yl (V:=V) hi').2] at e
    subst e
    rw[zeq (List.mem_of_getElem? hi')] at hp;cases hp
   ·rw[(zcl (L:=L) (V:=V) y).2,(zcl (L:=L) (V:=V) y').2] at e
    omega
end
end Go.Proofs.YtdllbdlnmjngcaaGreat.T

namespace Go.Proofs.YtdllbdlnmjngcaaGreat.T
open Go Go.RowKit L
set_option linter.unusedVariables false
set_option linter.unusedSimpArgs false
def zop:List (Nat×Nat)→Nat→Option Nat
 | [],_=>none
 | x :: r,i=>match Nat.beq x.1 i with
  | true=>some x.2
  | false=>zop r i
def z2e:List (Nat×Nat)→Nat→Option Nat
 | [],_=>none
 | x :: r,i=>match Nat.beq x.2 i with
  | true=>some x.1
  | false=>z2e r i
theorem zoo:∀ {l:List (Nat×Nat)} {i X:Nat},zop l i=some X→(i,X)∈l
 | [],i,X,h=>by cases h
 | x :: r,i,X,h=>by
  simp only[zop] at h
  split at h
  ·rename_i hb;cases h;rw[← qn hb];exact List.mem_cons_self ..
  ·exact List.mem_cons_of_mem _ (zoo h)
theorem zn7:∀ {l:List (Nat×Nat)} {i:Nat},zop l i=none→∀ x∈l,x.1≠i
 | [],i,h,x,hx=>by cases hx
 | a :: r,i,h,x,hx=>by
  simp only[zop] at h
  split at h
  ·cases h
  ·rename_i hb
   rcases List.mem_cons.1 hx with rfl | hx
   ·intro e;rw[e,Nat.beq_refl] at hb;cases hb
   ·exact zn7 h x hx
theorem znd:∀ {l:List (Nat×Nat)} {i X:Nat},z2e l X=some i→(i,X)∈l
 | [],i,X,h=>by cases h
 | x :: r,i,X,h=>by
  simp only[z2e] at h
  split at h
  ·rename_i hb;cases h;rw[← qn hb];exact List.mem_cons_self ..
  ·exact List.mem_cons_of_mem _ (znd h)
theorem z4v {l:List (Nat×Nat)} (h:(l.map Prod.fst).Nodup) {i X Y:Nat} (h1:(i,X)∈l) (h2:(i,Y)∈l):X=Y:=by
 induction l with
 | nil=>cases h1
 | cons a l ih=>
  simp only[List.map_cons,List.nodup_cons] at h
  rcases List.mem_cons.1 h1 with rfl | g1
  ·rcases List.mem_cons.1 h2 with h2 | h2
   ·cases h2;rfl
   ·exact absurd (List.mem_map.2 ⟨_,h2,rfl⟩) h.1
  ·rcases List.mem_cons.1 h2 with rfl | g2
   ·exact absurd (show i∈l.map Prod.fst from List.mem_map.2 ⟨(i,X),g1,rfl⟩) h.1
   ·exact ih h.2 g1 g2
theorem z49 {l:List (Nat×Nat)} (h:(l.map Prod.snd).Nodup) {i j X:Nat} (h1:(i,X)∈l) (h2:(j,X)∈l):i=j:=by
 induction l with
 | nil=>cases h1
 | cons a l ih=>
  simp only[List.map_cons,List.nodup_cons] at h
  rcases List.mem_cons.1 h1 with rfl | g1
  ·rcases List.mem_cons.1 h2 with h2 | h2
   ·cases h2;rfl
   ·exact absurd (List.mem_map.2 ⟨_,h2,rfl⟩) h.1
  ·rcases List.mem_cons.1 h2 with rfl | g2
   ·exact absurd (show X∈l.map Prod.snd from List.mem_map.2 ⟨(i,X),g1,rfl⟩) h.1
   ·exact ih h.2 g1 g2
def zeu (L:List Nat) (b:Nat) (G G':EG) (NL:List (Nat×Nat)):IdT:=fun X ver=>match Nat.blt X b with
 | true=>match Nat.beq ver 1 with
  | true=>match L[X]? with
   | some i=>some (i,(G i).ver)
   | none=>none
  | false=>none
 | false=>match z2e NL X with
  | some i=>match Nat.beq ver (G' X).ver with
   | true=>some (i,(G i).ver+1)
   | false=>none
  | none=>none
def zzc (ν:IdT) (b:Nat) (G':EG) (X:Nat):Option BD:=match Nat.blt X b && Nat.beq (G' X).ver 1 with
 | true=>(G' X).b.map (zbm ν)
 | false=>none
def z44 (ν:IdT) (b:Nat) (G G':EG):List Nat→Nat→List (Nat×GB)
 | [],_=>[]
 | i :: r,X=>(i,⟨(G i).ver,zzc ν b G' X⟩) :: z44 ν b G G' r (X+1)
def zmb (L:List Nat) (b:Nat) (G G':EG) (NL:List (Nat×Nat)):List (Nat×GB):=z44 (zeu L b G G' NL) b G G' L 0++NL.map fun x=>(x.1,⟨(G x.1).ver+1,(G' x.2).b.map (zbm (zeu L b G G' NL))⟩)
theorem zr1 (ν:IdT) (b:Nat) (G G':EG):∀(L:List Nat) (X:Nat),(z44 ν b G G' L X).map Prod.fst=L
 | [],X=>rfl
 | i :: r,X=>by simp only[z44,List.map_cons,zr1 ν b G G' r]
theorem z2k (ν:IdT) (b:Nat) (G G':EG):∀(L:List Nat) (X m i:Nat),L[m]? = some i→(i,(⟨(G i).ver,zzc ν b G' (X+m)⟩:GB))∈z44 ν b G G' L X
 | [],X,m,i,h=>by simp at h
 | a :: r,X,0,i,h=>by
  simp only[List.getElem?_cons_zero,Option.some.injEq] at h
  subst h
  simp[z44]
 | a :: r,X,m+1,i,h=>by
  simp only[List.getElem?_cons_succ] at h
  have:=z2k ν b G G' r (X+1) m i h
  rw[show X+1+m=X+(m+1) by omega] at this
  exact List.mem_cons_of_mem _ this
theorem Z5 (L:List Nat) (b:Nat) (G G':EG) (NL:List (Nat×Nat)):(zmb L b G G' NL).map Prod.fst=L++NL.map Prod.fst:=by
 unfold zmb
 rw[List.map_append,zr1,List.map_map];rfl
theorem zet:∀ {ws:List (Nat×GB)} {H:PHeap} {i:Nat} {g:GB},(ws.map Prod.fst).Nodup→(i,g)∈ws→yr H (Zx ws) (2*i)=j8 g
 | [],H,i,g,hn,h=>by cases h
 | x :: r,H,i,g,hn,h=>by
  simp only[List.map_cons,List.nodup_cons] at hn
  rcases List.mem_cons.1 h with rfl | h
  ·simp only[Zx,List.map_cons,yr]
   rw[zdo,if_neg]
   ·simp[PHeap.set]
   ·intro hb
    obtain⟨id,h1,h2⟩:=zhu.1 hb
    have:id=i:=by omega
    subst this;exact hn.1 h1
  ·simp only[Zx,List.map_cons,yr]
   exact zet hn.2 h
theorem zji {ws:List (Nat×GB)} {H:PHeap} {y:Nat} (h:∀ i∈ws.map Prod.fst,y≠2*i):yr H (Zx ws) y=H y:=by
 rw[zdo,if_neg]
 intro hb
 obtain⟨id,h1,h2⟩:=zhu.1 hb
 exact h id h1 h2
structure zun (L:List Nat) (b:Nat) (NL:List (Nat×Nat)):Prop where
 keys:(L++NL.map Prod.fst).Nodup
 snd:(NL.map Prod.snd).Nodup
 hi:∀ x∈NL,b≤x.2
section
variable {P : Program} {W : Env} {n : Nat} {L : List Nat} {b : Nat} {NL : List (Nat × Nat)} {G G' : EG} {H : PHeap} {V V' : Nat → Value} {w : World}
def Z9 (L:List Nat) (NL:List (Nat×Nat)):Nat→Nat:=fun y=>match Nat.beq (y % 2) 0 with
 | true=>match zlw L (y / 2) 0 with
  | some X=>2*X
  | none=>match zop NL (y / 2) with
   | some X=>2*X
   | none=>2*y+1
 | false=>2*y+1
abbrev zcg (L:List Nat) (b:Nat) (G G':EG) (NL:List (Nat×Nat)) (H:PHeap):PHeap:=yr H (Zx (zmb L b G G' NL))
theorem zve (hx:zun L b NL) (y:Nat) :
  (∃ X i:Nat,y=2*i∧L[X]? = some i∧zcg L b G G' NL H y=j8 ⟨(G i).ver,zzc (zeu L b G G' NL) b G' X⟩∧Z9 L NL y=2*X) ∨
  (∃ X i:Nat,y=2*i∧(i,X)∈NL∧zcg L b G G' NL H y=j8 ⟨(G i).ver+1,(G' X).b.map (zbm (zeu L b G G' NL))⟩∧Z9 L NL y=2*X) ∨
  (zcg L b G G' NL H y=H y∧zcw L y=false∧Z9 L NL y=2*y+1∧∀ x∈NL,y≠2*x.1):=by
 have hk:((zmb L b G G' NL).map Prod.fst).Nodup:=by rw[Z5];exact hx.keys
 unfold Z9
 cases hm:Nat.beq (y % 2) 0 with
 | false=>
  have hodd:∀ i,y≠2*i:=fun i e=>by subst e;rw[show 2*i % 2=0 by omega] at hm;cases hm
  exact .inr (.inr ⟨zji fun i _=>hodd i,by unfold zcw;rw[hm];rfl,rfl,fun x _=>hodd _⟩)
 | true=>
  have hy:=qn hm
  obtain⟨i,rfl⟩:∃ i,y=2*i:=⟨y / 2,by omega⟩
  rw[show 2*i / 2=i by omega]
  cases hp:zlw L i 0 with
  | some X=>
   obtain⟨m,h1,h2⟩:=zep hp
   refine .inl ⟨X,i,rfl,by rw[h1,Nat.zero_add];exact h2,?_,rfl⟩
   refine zet hk ?_
   unfold zmb
   have:=z2k (zeu L b G G' NL) b G G' L 0 m i h2
   rw[← h1] at this
   exact List.mem_append_left _ this
  | none=>
   simp only
   cases hf:zop NL i with
   | some X=>
    have hmem:=zoo hf
    refine .inr (.inl ⟨X,i,rfl,hmem,zet hk ?_,rfl⟩)
    unfold zmb
    exact List.mem_append_right _ (List.mem_map.2 ⟨_,hmem,rfl⟩)
   | none=>
    have h1:=zen hp
    have h2:=zn7 hf
    refine .inr (.inr ⟨zji fun j hj e=>?_,?_,rfl,fun x hx e=>h2 x hx (by omega)⟩)
    ·rw[Z5] at hj
     have:j=i:=by omega
     subst this
     rcases List.mem_append.1 hj with hj | hj
     ·exact h1 hj
     ·obtain⟨x,hx,e⟩:=List.mem_map.1 hj
      exact h2 x hx e
    ·unfold zcw
     rw[show 2*i / 2=i by omega,hp];simp
theorem zf6 {ν:IdT} {X:Nat} {bd:BD} (h:zzc ν b G' X=some bd):X<b∧(G' X).ver=1∧∃ b0,(G' X).b=some b0∧bd=zbm ν b0:=by
 unfold zzc at h
 split at h
 ·rename_i hb
  simp only[Bool.and_eq_true,Nat.blt_eq] at hb
  obtain⟨b0,h1,rfl⟩:=Option.map_eq_some_iff.1 h
  exact⟨hb.1,qn hb.2,b0,h1,rfl⟩
 ·cases h
theorem zb4 (hx:zun L b NL) {y:Nat} {bd:PBody} (h:(zcg L b G G' NL H y).body=some bd) :
  (∃ X i b0,y=2*i∧L[X]? = some i∧Z9 L NL y=2*X∧X<b∧(G' X).ver=1∧(G' X).b=some b0∧bd=(zbm (zeu L b G G' NL) b0).den) ∨
  (∃ X i b0,y=2*i∧(i,X)∈NL∧Z9 L NL y=2*X∧(G' X).b=some b0∧bd=(zbm (zeu L b G G' NL) b0).den) ∨
  (Z9 L NL y=2*y+1∧zcw L y=false∧(H y).body=some bd):=by
 rcases zve (G:=G) (G':=G') (H:=H) hx y with ⟨X,i,h1,h2,h3,h4⟩ | ⟨X,i,h1,h2,h3,h4⟩ | ⟨h1,h2,h3,_⟩
 ·rw[h3] at h
  simp only[j8,Option.map_eq_some_iff] at h
  obtain⟨a,ha,rfl⟩:=h
  obtain⟨k1,k2,b0,k3,rfl⟩:=zf6 ha
  exact .inl ⟨X,i,b0,h1,h2,h4,k1,k2,k3,rfl⟩
 ·rw[h3] at h
  simp only[j8,Option.map_eq_some_iff] at h
  obtain⟨a,⟨b0,k3,rfl⟩,rfl⟩:=h
  exact .inr (.inl ⟨X,i,b0,h1,h2,h4,k3,rfl⟩)
 ·rw[h1] at h
  exact .inr (.inr ⟨h3,h2,h⟩)
theorem zib (hx:zun L b NL) {y:Nat} (h:(zcg L b G G' NL H y).body.isSome=true):(j5 G' (inR L b G H) (Z9 L NL y)).body.isSome=true:=by
 obtain⟨bd,hb⟩:=Option.isSome_iff_exists.1 h
 rcases zb4 hx hb with ⟨X,i,b0,rfl,_,h1,_,_,h2,_⟩ | ⟨X,i,b0,rfl,_,h1,h2,_⟩ | ⟨h1,h2,h3⟩
 ·rw[h1,j0];simp[j8,h2]
 ·rw[h1,j0];simp[j8,h2]
 ·rw[h1,yg];unfold inR;rw[h2];simp[zf1,h3]
theorem z7y (hx:zun L b NL):∀ c,c<w.heap.size→¬ PZ W.Z (j5 G' (inR L b G H)) V' c→¬ PZ W.Z (zcg L b G G' NL H) (fun y=>V' (Z9 L NL y)) c:=fun c _ h=>z50 (fun y hy=>⟨_,zib hx hy,rfl⟩) h
theorem zz6 (hx:zun L b NL) (hn:L.Nodup):∀ id ver x,zb6 (zeu L b G G' NL) id ver=some x→ver≤(j5 G' (inR L b G H) id).ver→x.2≤(zcg L b G G' NL H x.1).ver∧((zcg L b G G' NL H x.1).body.isSome=true→(zcg L b G G' NL H x.1).ver=x.2→(j5 G' (inR L b G H) id).body.isSome=true∧(j5 G' (inR L b G H) id).ver=ver∧V' (Z9 L NL x.1)=V' id):=fun id ver x h hv=>by
 unfold zb6 at h
 split at h<;>try (cases h;done)
 rename_i he
 obtain⟨X,rfl⟩:∃ X,id=2*X:=⟨id / 2,by omega⟩
 rw[show 2*X / 2=X by omega] at h
 obtain⟨z,hz,rfl⟩:=Option.map_eq_some_iff.1 h
 have hkeys:=List.nodup_append.1 hx.keys
 unfold zeu at hz
 split at hz
 ·rename_i hb
  split at hz<;>try (cases hz;done)
  rename_i hv1
  have hv1:=qn hv1
  subst hv1
  split at hz<;>cases hz
  rename_i i hi
  rcases zve (G:=G) (G':=G') (H:=H) hx (2*i) with ⟨X',i',h1,h2,h3,h4⟩ | ⟨X',i',h1,h2,h3,h4⟩ | ⟨h1,h2,h3,_⟩
  ·have:i=i':=by omega
   subst this
   have e:=zhx hn hi
   rw[zhx hn h2] at e
   cases e
   simp only[h3,h4]
   refine⟨Nat.le_refl _,fun k1 _=>⟨?_,?_,trivial⟩⟩
   ·have:=zib (H:=H) (G:=G) (G':=G') hx (y:=2*i) (by rw[h3];exact k1)
    rw[h4] at this;exact this
   ·simp only[j8,Option.isSome_map] at k1
    obtain⟨bd,hbd⟩:=Option.isSome_iff_exists.1 k1
    rw[j0]
    exact(zf6 hbd).2.1
  ·have:i=i':=by omega
   subst this
   exact absurd rfl (hkeys.2.2 _ (List.mem_of_getElem? hi) _ (List.mem_map.2 ⟨_,h2,rfl⟩))
  ·rw[zeq (List.mem_of_getElem? hi)] at h2;cases h2
 ·rename_i hb
  split at hz<;>try (cases hz;done)
  rename_i i hi
  have hmem:=znd hi
  split at hz<;>cases hz
  rename_i hv1
  have hv1:=qn hv1
  subst hv1
  rcases zve (G:=G) (G':=G') (H:=H) hx (2*i) with ⟨X',i',h1,h2,h3,h4⟩ | ⟨X',i',h1,h2,h3,h4⟩ | ⟨h1,h2,h3,h5⟩
  ·have:i=i':=by omega
   subst this
   exact absurd rfl (hkeys.2.2 _ (List.mem_of_getElem? h2) _ (List.mem_map.2 ⟨_,hmem,rfl⟩))
  ·have:i=i':=by omega
   subst this
   have:=z4v hkeys.2.1 hmem h2
   subst this
   simp only[h3,h4]
   refine⟨Nat.le_refl _,fun k1 _=>⟨?_,by rw[j0];rfl,trivial⟩⟩
   have:=zib (H:=H) (G:=G) (G':=G') hx (y:=2*i) (by rw[h3];exact k1)
   rw[h4] at this;exact this
  ·exact absurd rfl (h5 _ hmem)
theorem zhl (hx:zun L b NL) (hn:L.Nodup) (hag:∀ i∈L++NL.map Prod.fst,H (2*i)=j8 (G i)):Back (phG L b G) H (j5 G' (inR L b G H)) (zcg L b G G' NL H) V' (fun y=>V' (Z9 L NL y)):=fun y ver hv=>by
 rcases zve (G:=G) (G':=G') (H:=H) hx y with ⟨X,i,rfl,h2,h3,h4⟩ | ⟨X,i,rfl,h2,h3,h4⟩ | ⟨h1,h2,h3,_⟩
 ·have hi:=List.mem_of_getElem? h2
  rw[hag i (List.mem_append_left _ hi)] at hv
  rw[h3]
  refine⟨hv,fun k1 k2=>?_⟩
  simp only[j8,Option.isSome_map] at k1 k2
  obtain⟨bd,hbd⟩:=Option.isSome_iff_exists.1 k1
  obtain⟨a1,a2,b0,a3,_⟩:=zf6 hbd
  refine⟨(2*X,1),?_,by rw[j0];simp[j8,a3],by rw[j0];exact a2,by show V' (Z9 L NL (2*i))=V' (2*X);rw[h4]⟩
  unfold phG
  rw[zeq hi,zad]
  unfold mu1
  rw[zhx hn h2]
  have:(Nat.blt X b && Nat.beq ver (G i).ver)=true:=by
   rw[← k2,Nat.beq_refl,Bool.and_true,Nat.blt_eq];exact a1
  simp only[this];rfl
 ·rw[hag i (List.mem_append_right _ (List.mem_map.2 ⟨_,h2,rfl⟩))] at hv
  rw[h3]
  have hv:ver≤(G i).ver:=hv
  refine⟨Nat.le_succ_of_le hv,fun _ k2=>?_⟩
  have k2:(G i).ver+1=ver:=k2
  omega
 ·rw[h1]
  refine⟨hv,fun k1 k2=>⟨(2*y+1,ver),?_,?_,?_,by show V' (Z9 L NL y)=V' (2*y+1);rw[h3]⟩⟩
  ·unfold phG;rw[h2]
  ·show(j5 G' (inR L b G H) (2*y+1)).body.isSome=true
   rw[yg];unfold inR;rw[h2];simp only[zf1,Option.isSome_map];exact k1
  ·show(j5 G' (inR L b G H) (2*y+1)).ver=ver
   rw[yg];unfold inR;rw[h2];exact k2
theorem z9d (hx:zun L b NL) (hn:L.Nodup) (hag:∀ i∈L++NL.map Prod.fst,H (2*i)=j8 (G i)) {W1:Env} (hw:W1.w=W.w) (hZ:W1.Z=W.Z) (hr:HRel P W1 (j5 G' (inR L b G H)) V' w) (hg:∀ i,Rp W.Z (zcg L b G G' NL H) (fun y=>V' (Z9 L NL y)) w (W.G i) (W.gv i)) (hf:∀ k bd,(H k).body=some bd→∀ c∈zfn bd,FlV H c) :
  HRel P W (zcg L b G G' NL H) (fun y=>V' (Z9 L NL y)) w:=by
 have hkeys:=List.nodup_append.1 hx.keys
 have hz:∀ c,c<w.heap.size→¬ PZ W1.Z (j5 G' (inR L b G H)) V' c→¬ PZ W1.Z (zcg L b G G' NL H) (fun y=>V' (Z9 L NL y)) c:=z7y (W:=W1) hx
 refine HRel.ren hr (Z9 L NL) hw.symm hZ.symm (fun i=>by rw[hZ];exact hg i) (fun y bd hb=>?_) fun y y' h1 h2 e=>?_
 ·rcases zb4 hx hb with ⟨X,i,b0,rfl,_,h1,_,_,h2,rfl⟩ | ⟨X,i,b0,rfl,_,h1,h2,rfl⟩ | ⟨h1,h2,h3⟩
  ·exact⟨b0.den,by rw[h1,j0];simp[j8,h2],rfl,zm4 (fun p v hp hv=>Zr hv hp hz (zz6 hx hn)) b0⟩
  ·exact⟨b0.den,by rw[h1,j0];simp[j8,h2],rfl,zm4 (fun p v hp hv=>Zr hv hp hz (zz6 hx hn)) b0⟩
  ·refine⟨zh2 (phG L b G) bd,?_,rfl,?_⟩
   ·rw[h1,yg];unfold inR;rw[h2];simp[zf1,h3]
   ·have hc:=hf y bd h3
    cases bd with
    | row t k m cs=>exact .row fun vs hv=>ztu hc hv hz (zhl hx hn hag)
    | box t cs=>exact .box fun vs hv=>ztu hc hv hz (zhl hx hn hag)
    | raw p cs φ=>exact .raw fun vs hv=>ztu hc hv hz (zhl hx hn hag)
 ·obtain⟨bd,hb⟩:=Option.isSome_iff_exists.1 h1
  obtain⟨bd',hb'⟩:=Option.isSome_iff_exists.1 h2
  rcases zb4 hx hb with ⟨X,i,b0,rfl,g1,g2,g3,_⟩ | ⟨X,i,b0,rfl,g1,g2,_⟩ | ⟨g1,g2,g3⟩
  ·rcases zb4 hx hb' with ⟨X',i',b0',rfl,k1,k2,k3,_⟩ | ⟨X',i',b0',rfl,k1,k2,_⟩ | ⟨k1,k2,k3⟩
   ·rw[g2,k2] at e
    have:X=X':=by omega
    subst this
    rw[g1] at k1;cases k1;rfl
   ·rw[g2,k2] at e
    have:=hx.hi _ k1
    simp only at this
    omega
   ·rw[g2,k1] at e;omega
  ·rcases zb4 hx hb' with ⟨X',i',b0',rfl,k1,k2,k3,_⟩ | ⟨X',i',b0',rfl,k1,k2,_⟩ | ⟨k1,k2,k3⟩
   ·rw[g2,k2] at e
    have:=hx.hi _ g1
    simp only at this
    omega
   ·rw[g2,k2] at e
    have:X=X':=by omega
    subst this
    rw[z49 hx.snd g1 k1]
   ·rw[g2,k1] at e;omega
  ·rcases zb4 hx hb' with ⟨X',i',b0',rfl,k1,k2,k3,_⟩ | ⟨X',i',b0',rfl,k1,k2,_⟩ | ⟨k1,k2,k3⟩
   ·rw[g1,k2] at e;omega
   ·rw[g1,k2] at e;omega
   ·rw[g1,k1] at e;omega
end
def z81 (xs:List TS):EF:=fun s=>match xs[s]? with
 | some x=>x
 | none=>UND
theorem zw3 (xs:List TS):Qe (vm xs)=yh (z81 xs):=by
 funext t
 unfold Qe yh z81
 rw[zaf,List.getElem?_map]
 cases xs[t]? with
 | none=>simp only[Option.map_none,Option.getD_none];exact und_den.symm
 | some d=>simp only[Option.map_some,Option.getD_some]
theorem PE.eff {P:Program} {W:Env} {n:Nat} {L:List Nat} {b:Nat} {NL:List (Nat×Nat)} {G G':EG} {H:PHeap} {F:PFrame} {o:Oper} {cl:Call} {az:List TS} {f:FuncId} {fn:Func} {c:Code} {s:TS} {E':EF} {e0:Exit}
  (hd:jn n o) (ho:o.op = .call cl) (ht:yk F cl=some (f,vm az)) (hg:ya P f=true) (hf:P.funcs[f]? = some fn) (hb:fn.body=some c) (hl:az.length≤fn.ntmps) (hfl:FlW W F H)
  (hx:zun L b NL) (hn:L.Nodup) (hag:∀ i∈L++NL.map Prod.fst,H (2*i)=j8 (G i)) (he:e0 = .normal∨e0 = .ret)
  (hc:∀ W1 R1,GhOk b W1→RestOk b R1→PC P W1 fn.ntmps c (yh (z81 (J7 (mu1 L L.length G) az))) (j5 (inG L G) R1) fun e F' H'=>e=e0∧F'=yh E'∧H'=j5 G' R1)
  (hres:zmh P fn.results.toList E' G'=some s) :
  PE P W n o F H fun p H'=>p=(zbp (zeu L b G G' NL) s).den∧H'=yr H (Zx (zmb L b G G' NL)):=fun V a w hr=>by
 obtain⟨vs,hev,hR⟩:=Ji (P:=P) (W:=W) (H:=H) (V:=V) (a:=a) (w:=w) ho ht hg fun x hx'=>Rp.eval (P:=P) x fun t ht=>hr.slot t
 have hagL:∀ i∈L,H (2*i)=j8 (G i):=fun i hi=>hag i (List.mem_append_left _ hi)
 have hpf:∀ i,Fl ((W.push F a).G i):=fun i=>by
  simp only[Env.push]
  split
  ·exact hfl.f _
  ·exact hfl.g _
 have hpush:HRel P (W.push F a) H V w:=⟨hr.heap.below,hr.heap.row,hr.heap.box,hr.heap.map,fun i=>by
  simp only[Env.push]
  split
  ·exact hr.slot _
  ·exact hr.heap.ghost _,hr.heap.apart,hr.heap.zlt,hr.heap.nz⟩
 have hin:=jbi (b:=b) hn hagL hpush hpf hfl.h
 have hargs:RpL W.Z (j5 (inG L G) (inR L b G H)) (inV L V) w (vm (J7 (mu1 L L.length G) az)) vs:=by
  rw[zb2,← ql]
  exact Z8 hR fun x hx v hv=>Zr hv (zhj az x hx) (zso hagL) (z7i hagL)
 have hlen:(vm (J7 (mu1 L L.length G) az)).length=az.length:=by rw[zaf,List.length_map,zi1]
 have hl1:=hargs.1
 rw[hlen] at hl1
 let W1:Env:={ W.push F a with G:=fun i=>vp (phG L b G) ((W.push F a).G i) }
 have hGh:GhOk b W1:=fun i=>zrg (hpf i)
 have hRest:RestOk b (inR L b G H):=inR_ok hfl.h
 have hcode:=hc W1 (inR L b G H) hGh hRest
 refine za2 hev (calls_of_wp hf hb (hcode (inV L V) _ w _ ⟨hin,by simp;omega,rfl,fun t=>?_⟩ fun e F' H' V' a' w' hq hr'=>?_))
 ·rw[← zw3]
  unfold Qe
  by_cases ht:t<(vm (J7 (mu1 L L.length G) az)).length
  ·have htv:t<vs.length:=by omega
   have:=hargs.2 t _ _ (List.getElem?_eq_getElem ht) (List.getElem?_eq_getElem htv)
   rw[List.getElem?_eq_getElem ht]
   simpa [W1,Env.push,Array.getD_eq_getD_getElem?,Array.getElem?_append,htv] using this
  ·have htv:¬ t<vs.length:=by omega
   rw[List.getElem?_eq_none (by omega)]
   have:(vs.toArray++Array.replicate (fn.ntmps-vs.toArray.size) undef).getD t undef=undef:=by
    rw[Array.getD_eq_getD_getElem?,Array.getElem?_append,if_neg (by simpa using htv),Array.getElem?_replicate]
    split<;>rfl
   simp only[this,Option.getD_none]
   exact .u _
 ·obtain⟨rfl,rfl,rfl⟩:=hq
  obtain⟨q,hq,hrq⟩:=ztk (R:=inR L b G H) hres
  obtain⟨v,hrun,hqv⟩:=zca hr' hq
  have hqv:=hrq _ _ _ _ _ hqv
  have hh':HRel P W1 (j5 G' (inR L b G H)) V' w':=hr'.heap
  have hz:∀ c,c<w'.heap.size→¬ PZ W.Z (j5 G' (inR L b G H)) V' c→¬ PZ W.Z (zcg L b G G' NL H) (fun y=>V' (Z9 L NL y)) c:=z7y hx
  have hbk:=zhl (V':=V') (G':=G') hx hn hag
  have hgh:∀ i,Rp W.Z (zcg L b G G' NL H) (fun y=>V' (Z9 L NL y)) w' ((W.push F a).G i) ((W.push F a).gv i):=fun i=>
   z8x (zu1 (hpush.ghost i) (hpf i)) (hh'.ghost i) hz hbk
  have hs:∀ t,Rp W.Z (zcg L b G G' NL H) (fun y=>V' (Z9 L NL y)) w' (F t) (a.tmps.getD t undef):=fun t=>by
   have:=hgh (2*t)
   simp only[Env.push,Nat.mul_mod_right,if_true] at this
   rwa [show 2*t / 2=t by omega] at this
  have hgg:∀ i,Rp W.Z (zcg L b G G' NL H) (fun y=>V' (Z9 L NL y)) w' (W.G i) (W.gv i):=fun i=>by
   have:=hgh (2*i+1)
   simp only[Env.push,show ¬((2*i+1) % 2=0) by omega,if_false] at this
   rwa [show(2*i+1) / 2=i by omega] at this
  have hcell:∀ k bd,(H k).body=some bd→∀ c∈zfn bd,FlV H c:=fun k bd hbd c hc=>by
   have hfc:=hfl.h k bd hbd c hc
   obtain⟨i,hi⟩:=zm6 hc
   cases bd with
   | row t k' m cs=>
    obtain⟨vals,_,h2,_⟩:=hr.heap.row _ _ _ _ _ hbd
    have hi':cs[i]? = some c:=hi
    have hlt:i<vals.length:=by rw[← h2.1];exact(List.getElem?_eq_some_iff.1 hi').1
    exact zu1 (h2.2 i c _ hi' (List.getElem?_eq_getElem hlt)) hfc
   | box t cs=>
    obtain⟨g,arr,_,_,_,h2,_⟩:=hr.heap.box _ _ _ hbd
    have hi':cs[i]? = some c:=hi
    have hlt:i<arr.toList.length:=by rw[← h2.1];exact(List.getElem?_eq_some_iff.1 hi').1
    exact zu1 (h2.2 i c _ hi' (List.getElem?_eq_getElem hlt)) hfc
   | raw p cs φ=>
    obtain⟨g,o,vals,_,_,_,_,h2⟩:=hr.heap.map _ _ _ _ hbd
    have hi':cs[i]? = some c:=hi
    have hlt:i<vals.length:=by rw[← h2.1];exact(List.getElem?_eq_some_iff.1 hi').1
    exact zu1 (h2.2 i c _ hi' (List.getElem?_eq_getElem hlt)) hfc
  have hheap:=z9d (W:=W) (G':=G') hx hn hag (W1:=W1) rfl rfl hh' hgg hcell
  have hrel:Rel P W n F (zcg L b G G' NL H) (fun y=>V' (Z9 L NL y)) a w':=⟨hheap,hr.size,hr.defers,hs⟩
  have hpv:Rp W.Z (zcg L b G G' NL H) (fun y=>V' (Z9 L NL y)) w' (zbp (zeu L b G G' NL) s).den v:=by
   rw[znv]
   exact Zr hqv (ziz s) hz (zz6 hx hn)
  have hput:=hrel.put (Below.refl _ _) o.dst hd hpv
  rcases he with rfl | rfl
  ·exact⟨hr'.defers,v,hrun,v,rfl,_,_,_,⟨rfl,rfl⟩,hput⟩
  ·exact⟨hr'.defers,v,hrun,v,rfl,_,_,_,⟨rfl,rfl⟩,hput⟩
end Go.Proofs.YtdllbdlnmjngcaaGreat.T

namespace Go.Proofs.YtdllbdlnmjngcaaGreat.T
open Go Go.RowKit L
set_option linter.unusedVariables false
set_option linter.unusedSimpArgs false
structure Prm where
 bd:Nat→Bool
 lit:Nat→Option LK
 zt:ZT
 zt2:ZT
 zy:ZY
 S:zz7
def ztOf {α:Type} (pr:Prm) (l:List α):ZT:=match l with
 | []=>pr.zt
 | _=>pr.zt2
def zsz (o:Oper):Nat:=match o.dst with
 | some d=>d
 | none=>0
def tySt:TS→Option Ty
 | .v ⟨.st r,_⟩=>some r
 | _=>none
def orT (a b:Option Ty):Option Ty:=match a with
 | some t=>some t
 | none=>b
def z77 (P:Program) (bd:Bool) (op:BinOp) (t:TypeId) (x y:Operand) (E:EF) (G:EG):Option SR:=match y with
 | .const (.slice none 0 0)=>match v8 P t with
  | true=>z5h op (evE E x)
  | false=>none
 | .const (.pointer none)=>match z2s P t with
  | true=>z68 bd op G (evE E x)
  | false=>none
 | .const .nilFunc=>match P.underlying t with
  | some (.func _ _ _)=>match evE E x with
   | .fn _ _ _=>match zgu op false with
    | some b=>some (.now (.c (.bool b)) [])
    | none=>none
   | .c .nilFunc=>match zgu op true with
    | some b=>some (.now (.c (.bool b)) [])
    | none=>none
   | _=>none
  | _=>none
 | y=>match zd8 P t y with
  | false=>none
  | true=>match P.underlying t with
   | some (.int k)=>sInt bd k op (evE E x) (evE E y)
   | some .bool=>z6g bd op (evE E x) (evE E y)
   | some .string=>sStr bd op (evE E x) (evE E y)
   | some (.struct _)=>match orT (tySt (evE E x)) (tySt (evE E y)) with
    | some r=>sEqS bd (eqS P t) (P.eqGuardType P.depth t) op r E x y
    | none=>none
   | some (.array n e)=>match P.underlying e with
    | some (.int k)=>match asz P e with
     | some (false,1)=>sEqA bd (P.eqGuardType P.depth t) op n k E x y
     | _=>none
    | _=>none
   | _=>none
def z0y (P:Program) (pr:Prm) (nid:Nat) (o:Oper) (c:Call) (E:EF) (G:EG):Option SR:=match c with
 | ⟨.builtin .len,⟨[x]⟩,⟨[t]⟩⟩=>match v8 P t with
  | true=>z0q (pr.bd (zsz o)) true G (evE E x)
  | false=>match Yu P t with
   | true=>z0q (pr.bd (zsz o)) false G (evE E x)
   | false=>none
 | ⟨.builtin .append,⟨[s,x]⟩,⟨[t,t']⟩⟩=>match Nat.beq t t' with
  | true=>sApp (v7 P t) o G nid (evE E s) (evE E x)
  | false=>none
 | ⟨.builtin .min,⟨[x,y]⟩,_⟩=>jb5 (pr.bd (zsz o)) false (evE E x) (evE E y)
 | ⟨.builtin .max,⟨[x,y]⟩,_⟩=>jb5 (pr.bd (zsz o)) true (evE E x) (evE E y)
 | ⟨.value f,as',ts⟩=>match z6j pr.S E ⟨.value f,as',ts⟩ with
  | some q=>some q
  | none=>zz3 pr.S E G ⟨.value f,as',ts⟩
 | _=>none
abbrev Sy1:=Nat→Nat→Nat→Oper→EF→EG→Option SR
def zwd (P:Program) (pr:Prm):Sy1:=fun ctx nid site o E G=>match o.op with
 | .move x=>some (.now (evE E x) [])
 | .assign x=>some (.now (evE E x) [])
 | .pick c x y=>z58 (pr.bd (zsz o)) (evE E c) (evE E x) (evE E y)
 | .binOp op t x y _=>z77 P (pr.bd (zsz o)) op t x y E G
 | .unOp .not _ x=>sNot (pr.bd (zsz o)) (evE E x)
 | .convert s d x=>match (zh5 P s).isSome with
  | true=>match zh5 P d with
   | some k=>jcm (pr.bd (zsz o)) k (evE E x)
   | none=>none
  | false=>none
 | .extract x i=>sExt (evE E x) i
 | .call c=>z0y P pr nid o c E G
 | .indexAddr t x i=>sIdx (esz P t) (arr P t) G (evE E x) (evE E i)
 | .index t x i=>match Yu P t with
  | true=>jb8 (evE E x) (evE E i)
  | false=>none
 | .fieldAddr s x f=>match fof P s f with
  | some (fo,ft)=>match asz P ft with
   | some (ag,k)=>sFld fo k ag G (evE E x)
   | none=>none
  | none=>none
 | .field s x f=>match fof P s f with
  | some (fo,ft)=>match asz P ft with
   | some (ag,k)=>sFie fo k ag (evE E x)
   | none=>none
  | none=>none
 | .load t x=>match asz P t with
  | some (ag,k)=>sLd ag k G (evE E x)
  | none=>none
 | .store t x y=>match asz P t with
  | some (ag,k)=>sSto ag k G (evE E x) (evE E y)
  | none=>none
 | .slice t x lo hi none=>sSli (esz P t) (Yu P t) (evE E x) (lo.map (evE E)) (hi.map (evE E))
 | .build t parts=>sBld (ztOf pr parts.toList) (arr P t).isSome (zhk P t) t G (parts.toList.map fun x=>(x.1,evE E x.2))
 | .makeFunc f a b=>some (.now (.fn f (a.toList.map (evE E)) (b.toList.map (evE E))) [])
 | .nilCheck x=>z8h G (evE E x)
 | .alloc t=>zzq pr.zt t o G nid
 | .box t x=>sBox t o G nid (evE E x)
 | .makeSlice t x y=>sMk pr.zy (v7 P t) o G nid (zvd x y) (evE E x)
 | .buildSlice t len parts=>sLit (pr.lit (zsz o)) (v7 P t) o G nid len (parts.toList.map fun x=>(x.1,evE E x.2))
 | _=>none
section
variable {P : Program} {pr : Prm} {o : Oper} {E : EF} {G : EG}
theorem z61 {bd:Bool} {op:BinOp} {t t':TypeId} {x y:Operand} {q:SR} (ho:o.op = .binOp op t x y t') (h:z77 P bd op t x y E G=some q):SOk P o E G q:=by
 unfold z77 at h
 split at h
 ·split at h<;>try (cases h;done)
  rename_i ht
  exact z7b ho ht h
 ·split at h<;>try (cases h;done)
  rename_i ht
  exact z8o ho ht h
 ·split at h<;>try (cases h;done)
  rename_i A B C hu
  split at h<;>try (cases h;done)
  ·rename_i f a b hx
   split at h<;>cases h
   rename_i b' hb
   refine SOk.now fun W F H hag=>(PQ.nilF ho hu (.inl ⟨f,vm a,vm b,?_,rfl⟩) hb:PQ P W o F H (.u (.bool b')))
   rw[hag.ev (by rw[ho];simp[Op.operands]),hx];simp only[TS.den]
  ·rename_i hx
   split at h<;>cases h
   rename_i b' hb
   refine SOk.now fun W F H hag=>(PQ.nilF ho hu (.inr ⟨?_,rfl⟩) hb:PQ P W o F H (.u (.bool b')))
   rw[hag.ev (by rw[ho];simp[Op.operands]),hx];simp only[TS.den];rfl
 ·split at h<;>try (cases h;done)
  rename_i hy
  split at h
  ·exact z90 ho hy h
  ·rename_i hu;exact z65 hu ho hy h
  ·exact jao ho hy h
  ·split at h<;>try (cases h;done)
   exact jal (d:=0) ho h
  ·rename_i hu
   split at h<;>try (cases h;done)
   rename_i hD
   split at h<;>try (cases h;done)
   rename_i hs
   exact jbj ho hu hD hs h
  ·cases h
theorem z3e (hS:Jl P pr.S) {nid:Nat} {c:Call} {q:SR} (ho:o.op = .call c) (h:z0y P pr nid o c E G=some q):SOk P o E G q:=by
 unfold z0y at h
 split at h
 ·rename_i x t
  split at h
  ·rename_i ht
   exact z2m ho (fun _=>ht) (fun e=>by cases e) h
  ·split at h<;>try (cases h;done)
   rename_i ht
   exact z2m ho (fun e=>by cases e) (fun _=>ht) h
 ·rename_i s x t t'
  split at h<;>try (cases h;done)
  rename_i ht
  have:=Nat.eq_of_beq_eq_true ht
  subst this
  exact z92 ho h
 ·exact z2r (mx:=false) ho h
 ·exact z2r (mx:=true) ho h
 ·split at h
  ·rename_i q' hq';cases h;exact z8g hS ho hq'
  ·exact z26 hS ho h
 ·cases h
theorem zyt (hS:Jl P pr.S) (hzt:zdl P pr.zt) (hzt2:zdl P pr.zt2):∀ ctx nid site o E G q,zwd P pr ctx nid site o E G=some q→SOk P o E G q:=fun ctx nid site o E G q h=>by
 unfold zwd at h
 split at h
 ·rename_i x ho;cases h;exact zy3 (.inl ho)
 ·rename_i x ho;cases h;exact zy3 (.inr ho)
 ·rename_i ho;exact z7f ho h
 ·rename_i ho;exact z61 ho h
 ·rename_i ho;exact jac ho h
 ·rename_i ho
  split at h<;>try (cases h;done)
  rename_i h1
  split at h<;>try (cases h;done)
  rename_i h2
  exact z6y ho h1 h2 h
 ·rename_i ho;exact jab ho h
 ·rename_i ho;exact z3e hS ho h
 ·rename_i ho;exact z95 ho h
 ·rename_i ho
  split at h<;>try (cases h;done)
  rename_i h1
  exact z8k ho h1 h
 ·rename_i ho
  split at h<;>try (cases h;done)
  rename_i h1
  split at h<;>try (cases h;done)
  rename_i h2
  exact jb1 ho h1 h2 h
 ·rename_i ho
  split at h<;>try (cases h;done)
  rename_i h1
  split at h<;>try (cases h;done)
  rename_i h2
  exact jav ho h1 h2 h
 ·rename_i ho
  split at h<;>try (cases h;done)
  rename_i h2
  exact sLd_ok ho h2 h
 ·rename_i ho
  split at h<;>try (cases h;done)
  rename_i h2
  exact jat ho h2 h
 ·rename_i ho;exact ja8 ho h
 ·rename_i ho;refine jbr ?_ ho h;unfold ztOf;split<;>assumption
 ·rename_i ho;cases h;exact jbk ho
 ·rename_i ho;exact z86 ho h
 ·rename_i ho;exact z43 hzt ho h
 ·rename_i ho;exact jb0 ho h
 ·rename_i ho;exact sMk_ok ho h
 ·rename_i ho;exact jak ho h
 ·cases h
end
end Go.Proofs.YtdllbdlnmjngcaaGreat.T

namespace Go.Proofs.YtdllbdlnmjngcaaGreat.T
open Go Go.RowKit L
set_option linter.unusedVariables false
def w64 (z:Int):Int:=IntKind.i64.wrap z
def wr (k:IntKind) (z:Int):Int:=k.wrap z
theorem yb {α:Type} {f a:Nat} {x:α} {y z:Option α} {G:Prop} (h:cond (Nat.beq f a) y z=some x) (h1:f=a→y=some x→G) (h2:z=some x→G):G:=by
 cases hb:Nat.beq f a
 ·rw[hb] at h;exact h2 h
 ·rw[hb] at h;exact h1 (Nat.eq_of_beq_eq_true hb) h
theorem RefL.of_eq {ps qs:List PV} (h:ps=qs):RefL ps qs:=h▸RefL.refl ps
end Go.Proofs.YtdllbdlnmjngcaaGreat.T

namespace Go.Proofs.YtdllbdlnmjngcaaGreat.T
open Go Go.RowKit L
set_option linter.unusedVariables false
set_option linter.unusedSimpArgs false
def zdr (s:List UInt8) (p:Int):Bool:=Nat.blt p.toNat s.length
def jcc (p:Int):Int:=(p.toNat:Int)
def z9e (s:List UInt8) (p:Int):Int:=((Utf8.decode ⟨⟨s⟩⟩ p.toNat).1:Int)
def zbf (s:List UInt8) (p:Int):Int:=((p.toNat+(Utf8.decode ⟨⟨s⟩⟩ p.toNat).2:Nat):Int)
def z0f (P:Program) (t:TypeId) (o:Oper) (nid:Nat) (G:EG) (x:TS):Option SR:=match Yu P t with
 | false=>none
 | true=>match Jy o with
  | false=>none
  | true=>match Qm .str x with
   | none=>none
   | some s=>some (.mem (.own nid (nv G nid)) nid ⟨nv G nid,some (.obj .si (s,0,()))⟩ [])
def z7j (o:Oper) (G:EG) (x:TS):Option SK:=match Jy o with
 | false=>none
 | true=>match x with
  | .own id ver=>match Nat.beq (G id).ver ver with
   | true=>match (G id).b with
    | some (.obj .si y)=>some ⟨fun k=>ifB (zdr y.1 y.2.1) (k (.tup [.c (.bool true), .v ⟨.int .i64,jcc y.2.1⟩, .v ⟨.int .i32,z9e y.1 y.2.1⟩]) [(id,⟨ver,some (.obj .si (y.1,zbf y.1 y.2.1,()))⟩)] ⟨[],[id]⟩) (k (.tup [.c (.bool false)]) [] ⟨[id],[]⟩)⟩
    | _=>none
   | false=>none
  | _=>none
section
variable {P : Program} {o : Oper} {E : EF} {G : EG} {H : PHeap} {F : PFrame} {W : Env} {n : Nat}
theorem z4b {t:TypeId} {nid:Nat} {x:Operand} {q:SR} (ho:o.op = .range t x) (h:z0f P t o nid G (evE E x)=some q):SOk P o E G q:=by
 have hx':x∈o.op.operands:=by rw[ho];simp[Op.operands]
 unfold z0f at h
 split at h<;>try (cases h;done)
 rename_i ht
 split at h<;>try (cases h;done)
 rename_i hds
 split at h<;>cases h
 rename_i s hs
 have hu:P.underlying t=some .string:=by
  unfold Yu at ht
  split at ht
  ·assumption
  ·cases ht
 refine SOk.mem fun W n F H hdo hag V a w hr=>?_
 have hxv:a.eval x = .string ⟨⟨s⟩⟩:=by
  have:=Rp.eval (P:=P) (F:=F) (a:=a) (Z:=W.Z) (H:=H) (V:=V) (w:=w) x fun t _=>hr.slot t
  rw[hag.ev hx',yd hs] at this
  generalize a.eval x=v at this
  cases this;rfl
 have hex:(execOp a.eval o).run P w = .ok (.value (.pointer (some ⟨w.heap.size,0,none⟩))) (w.alloc (.stringIter ⟨⟨s⟩⟩ 0)):=by
  simp[execOp,ho,hxv,Instr.range,run_underlying hu]
 refine vk hex ⟨.ps (2*nid) (nv G nid),H.set (2*nid) ⟨(H (2*nid)).ver+1,some (RK.den .si (s,0,()))⟩,vd V (2*nid) (.pointer (some ⟨w.heap.size,0,none⟩)),⟨by simp only[TS.den],?_⟩,?_⟩
 ·rw[zob hag];rfl
 ·have hb:Below w.heap.size w (w.alloc (.stringIter ⟨⟨s⟩⟩ 0)):=(Below.refl _ _).alloc (Nat.le_refl _) _
  refine hr.turn (Turn.new hr.heap hb rfl fun g hg=>by cases hg;exact Nat.le_refl _) (fun bd hbd=>?_) o.dst (fun t ht=>hdo t ht) ?_
  ·cases hbd
   exact⟨w.heap.size,_,[],rfl,hr.heap.below.size,heap_alloc_new w _,rfl,rfl,fun i p v h=>by simp at h⟩
  ·refine .ps _ _ _ ?_ fun _ _=>?_
   ·simp[PHeap.set,zob hag]
   ·simp[vd]
theorem jcb {id ver:Nat} {y:List UInt8×Int×Unit} (hG:G id = ⟨ver,some (.obj .si y)⟩) (hH:H (2*id)=j8 (G id)) {V:Nat→Value} {w:World} (hr:HRel P W H V w) {v:Value} (hv:Rp W.Z H V w (.ps (2*id) ver) v) :
  ∃ g,v = .pointer (some ⟨g,0,none⟩)∧V (2*id) = .pointer (some ⟨g,0,none⟩)∧W.w.heap.size≤g∧w.heap[g]? = some (.stringIter ⟨⟨y.1⟩⟩ y.2.1.toNat):=by
 have hb:H (2*id) = ⟨ver,some (RK.den .si y)⟩:=by rw[hH,hG];rfl
 obtain⟨g,o,vs,e,hg,hh,rfl,_⟩:=hr.map (2*id) true [] _ (by rw[hb];rfl)
 cases hv with
 | ps _ _ _ hvv hq=>
  have:=hq (by rw[hb];rfl) (by rw[hb])
  exact⟨g,by rw[this,e];rfl,e,hg,hh⟩
theorem z7e {x:Operand} {q:SK} (ho:o.op = .next x true) (h:z7j o G (evE E x)=some q):z3g P o E G q:=by
 have hx':x∈o.op.operands:=by rw[ho];simp[Op.operands]
 unfold z7j at h
 split at h<;>try (cases h;done)
 rename_i hds
 split at h<;>try (cases h;done)
 rename_i id ver hx
 split at h<;>try (cases h;done)
 rename_i hv
 split at h<;>cases h
 rename_i y hb
 have hG:G id = ⟨ver,some (.obj .si y)⟩:=by
  cases hG:G id with
  | mk v b=>
   rw[hG] at hv hb
   simp only at hv hb
   rw[qn hv,hb]
 intro β k r hr
 simp only at hr
 cases hm:zdr y.1 y.2.1 with
 | false=>
  rw[hm] at hr
  refine⟨_,_,_,hr,fun k2=>by simp only[hm];rfl,fun id' h=>by simp at h,fun W n F H hfl hdo hF hH=>?_⟩
  have hag:Agr o E G [id] F H:=⟨hF,fun i hi=>hH i (.inl hi)⟩
  refine PE.quiet hdo (PQ.of_run fun V a w hw hh=>?_) ⟨rfl,rfl⟩
  have hxv:=hh x hx'
  rw[hag.ev hx',hx] at hxv
  simp only[TS.den] at hxv
  obtain⟨g,e1,e2,e3,e4⟩:=jcb hG (hag.h id (by simp)) hw hxv
  have hlt:¬ y.2.1.toNat<y.1.length:=by
   intro h
   have:zdr y.1 y.2.1=true:=by simpa [zdr,Nat.blt_eq] using h
   rw[hm] at this;cases this
  refine⟨.tuple #[.bool false],?_,?_⟩
  ·have hs:¬ y.2.1.toNat<(⟨⟨y.1⟩⟩:ByteArray).size:=by simpa [ByteArray.size] using hlt
   simp[execOp,ho,e1,Instr.next,getObj,Sem.run,e4,hs]
  ·simp only[TS.den,vm]
   exact .tup _ _ rfl fun i p v h1 h2=>by
    match i,h1,h2 with
    | 0,h1,h2=>cases h1;cases h2;exact .u _
 | true=>
  rw[hm] at hr
  refine⟨_,_,_,hr,fun k2=>by simp only[hm];rfl,fun id' h=>by simpa using h,fun W n F H hfl hdo hF hH V a w hrel=>?_⟩
  have hag:Agr o E G [id] F H:=⟨hF,fun i hi=>hH i (.inr (by simpa using hi))⟩
  have hxv:=Rp.eval (P:=P) (F:=F) (a:=a) (Z:=W.Z) (H:=H) (V:=V) (w:=w) x fun t _=>hrel.slot t
  rw[hag.ev hx',hx] at hxv
  simp only[TS.den] at hxv
  have hHi:=hag.h id (by simp)
  obtain⟨g,e1,e2,e3,e4⟩:=jcb hG hHi hrel.heap hxv
  have hlt:y.2.1.toNat<y.1.length:=by simpa [zdr,Nat.blt_eq] using hm
  have hs:y.2.1.toNat<(⟨⟨y.1⟩⟩:ByteArray).size:=by simpa [ByteArray.size] using hlt
  have hHb:H (2*id) = ⟨ver,some (RK.den .si y)⟩:=by rw[hHi,hG];rfl
  have hl:(H (2*id)).body.isSome=true:=by rw[hHb];rfl
  have hgl:=(Array.getElem?_eq_some_iff.1 e4).1
  have hother:∀(o:Obj) b,b≠g→(w.heap.setIfInBounds g o)[b]? = w.heap[b]?:=fun o b hne=>by simp[Ne.symm hne]
  have hex:(execOp a.eval o).run P w = .ok (.value (.tuple #[.bool true, .int .i64 (y.2.1.toNat:Int), .int .i32 ((Utf8.decode ⟨⟨y.1⟩⟩ y.2.1.toNat).1:Int)])) { w with heap:=w.heap.setIfInBounds g (.stringIter ⟨⟨y.1⟩⟩ (y.2.1.toNat+(Utf8.decode ⟨⟨y.1⟩⟩ y.2.1.toNat).2)) }:=by
   simp[execOp,ho,e1,Instr.next,getObj,setObj,Sem.run,e4,hs,goInt]
  have hturn:Turn W H V w (2*id) ⟨ver,some (RK.den .si (y.1,zbf y.1 y.2.1,()))⟩ (V (2*id)) { w with heap:=w.heap.setIfInBounds g (.stringIter ⟨⟨y.1⟩⟩ (y.2.1.toNat+(Utf8.decode ⟨⟨y.1⟩⟩ y.2.1.toNat).2)) }:=
   ⟨hrel.heap.below.trans ⟨rfl,rfl,rfl,by simp,fun b hb=>hother _ b (by omega)⟩,by simp,fun b hb hn=>hother _ b fun e=>hn ⟨hl,by rw[e,e2];rfl⟩,fun g' hg' => .inr ⟨hl,hg'⟩, .inr ⟨by rw[hHb],rfl,hl⟩⟩
  refine vk hex ⟨_,_,vd V (2*id) (V (2*id)),⟨rfl,rfl⟩,hrel.turn hturn (fun bd hbd=>?_) o.dst hdo ?_⟩
  ·cases hbd
   exact⟨g, .stringIter ⟨⟨y.1⟩⟩ (y.2.1.toNat+(Utf8.decode ⟨⟨y.1⟩⟩ y.2.1.toNat).2),[],e2,e3,by simp[hgl],by show Obj.stringIter _ _=Obj.stringIter _ _;rw[show(zbf y.1 y.2.1).toNat=y.2.1.toNat+(Utf8.decode ⟨⟨y.1⟩⟩ y.2.1.toNat).2 from Int.toNat_natCast _],rfl,fun i p v h=>by simp at h⟩
  ·simp only[TS.den,vm]
   exact .tup _ _ rfl fun i p v h1 h2=>by
    match i,h1,h2 with
    | 0,h1,h2=>cases h1;cases h2;exact .u _
    | 1,h1,h2=>cases h1;cases h2;exact .u _
    | 2,h1,h2=>cases h1;cases h2;exact .u _
end
def stK (P:Program) (q:Option SR) (nid:Nat) (o:Oper) (E:EF) (G:EG):Option SK:=match o.op with
 | .next x true=>z7j o G (evE E x)
 | .range t x=>match z0f P t o nid G (evE E x) with
  | some q=>some q.k
  | none=>none
 | _=>match q with
  | some q=>some q.k
  | none=>none
theorem z6d {P:Program} {q:Option SR} {nid:Nat} {o:Oper} {E:EF} {G:EG} (hq:∀ x,q=some x→SOk P o E G x) {r:SK} (h:stK P q nid o E G=some r):z3g P o E G r:=by
 unfold stK at h
 split at h
 ·rename_i x ho;exact z7e ho h
 ·rename_i t x ho
  split at h<;>cases h
  rename_i q' hq'
  exact(z4b ho hq').k
 ·split at h<;>cases h
  exact(hq _ rfl).k
end Go.Proofs.YtdllbdlnmjngcaaGreat.T

namespace Go.Proofs.YtdllbdlnmjngcaaGreat.T
open Go Go.RowKit L
set_option linter.unusedVariables false
set_option linter.unusedSimpArgs false
def zkj (un:List Nat) (keep:Bool):List Nat→Nat→List Nat
 | [],_=>[]
 | i :: r,j=>match eqb (zdm un j) keep with
  | true=>zkj un keep r (j+1)
  | false=>i :: zkj un keep r (j+1)
def zee:List Nat→Bool
 | []=>true
 | x :: r=>!(zdm r x) && zee r
theorem Z1:∀ {l:List Nat},zee l=true→l.Nodup
 | [],_=>List.nodup_nil
 | x :: r,h=>by
  simp only[zee,Bool.and_eq_true,Bool.not_eq_true'] at h
  refine List.nodup_cons.2 ⟨fun hm=>?_,Z1 h.2⟩
  rw[Jh.2 hm] at h;cases h.1
def z7n (b:Nat):List Nat→List Nat
 | []=>[]
 | x :: r=>match Nat.ble b x with
  | true=>x :: z7n b r
  | false=>z7n b r
def numL:Nat→List Nat→List (Nat×Nat)
 | _,[]=>[]
 | i,x :: r=>(i,x) :: numL (i+1) r
def upTo:Nat→Nat→List Nat
 | 0,_=>[]
 | m+1,i=>i :: upTo m (i+1)
def zv7 (L:List Nat) (b:Nat) (NL:List (Nat×Nat)):Bool:=zee (L++NL.map Prod.fst) && zee (NL.map Prod.snd) && NL.all fun x=>Nat.ble b x.2
theorem zww {L:List Nat} {b:Nat} {NL:List (Nat×Nat)} (h:zv7 L b NL=true):zun L b NL:=by
 unfold zv7 at h
 simp only[Bool.and_eq_true,List.all_eq_true] at h
 exact⟨Z1 h.1.1,Z1 h.1.2,fun x hx=>Nat.le_of_ble_eq_true (h.2 x hx)⟩
def liveUp (G:EG) (b:Nat):List Nat:=Yo G ((upTo b 0).map fun X=>(X,1))
def newL (b nid:Nat) (G':EG) (s:TS):Option (List (Nat×Nat)):=match zkh G' 1000 (Yo G' (idvT s)++liveUp G' b) [] with
 | some ys=>some (numL nid (z7n b ys))
 | none=>none
structure IE where
 f:FuncId
 n:Nat
 rs:List ResultVar
 c:Code
 hint:Nat→Option HK
 ctx:Nat
 un:List Nat
def z8v (P:Program) (x:IE):Prop:=∃ fn,P.funcs[x.f]? = some fn∧fn.body=some x.c∧fn.ntmps=x.n∧fn.results.toList=x.rs∧ya P x.f=true
def inlX {β:Type} (P:Program) (x:IE) (L:List Nat) (b nid:Nat) (G:EG) (k:TS→List (Nat×GB)→RT→Option β):EK β:=fun e nx E' G'=>match e with
 | .normal=>inlR E' G'
 | .ret=>inlR E' G'
 | _=>none
where
 inlR (E':EF) (G':EG):Option β:=match zmh P x.rs E' G' with
  | none=>none
  | some s=>match newL b nid G' s with
   | none=>none
   | some NL=>match zv7 L b NL with
    | true=>k (zbp (zeu L b G G' NL) s) (zmb L b G G' NL) ⟨[],L++NL.map Prod.fst⟩
    | false=>none
def inlK (P:Program) (sy:SyT) (fuel:Nat) (x:IE) (cl:Call) (nid:Nat) (E:EF) (G:EG):Option SK:=match zuy E cl with
 | none=>none
 | some (f,az)=>match Nat.beq f x.f && Nat.ble az.length x.n with
  | false=>none
  | true=>match zkh G 1000 (Yo G (zdf az)) [] with
   | none=>none
   | some seen=>match zkj x.un true seen 0 with
    | L0=>match L0++zkj x.un false seen 0 with
     | L=>match zee L with
      | false=>none
      | true=>some ⟨fun k=>qg sy fuel x.hint x.ctx L0.length x.n x.c 1 L.length (z81 (J7 (mu1 L L.length G) az)) (inG L G) (inlX P x L L0.length nid G k)⟩
theorem zsi {β:Type} {P:Program} {x:IE} {L:List Nat} {b nid:Nat} {G:EG} {k:TS→List (Nat×GB)→RT→Option β} {e:Exit} {nx:Nat} {E':EF} {G':EG} {r:β} (h:inlX P x L b nid G k e nx E' G'=some r) :
  (e = .normal∨e = .ret)∧∃ s NL,zmh P x.rs E' G'=some s∧zv7 L b NL=true∧k (zbp (zeu L b G G' NL) s) (zmb L b G G' NL) ⟨[],L++NL.map Prod.fst⟩=some r ∧
   ∀ {γ:Type} (k2:TS→List (Nat×GB)→RT→Option γ),inlX P x L b nid G k2 e nx E' G'=k2 (zbp (zeu L b G G' NL) s) (zmb L b G G' NL) ⟨[],L++NL.map Prod.fst⟩:=by
 have key:∀ {β:Type} {k:TS→List (Nat×GB)→RT→Option β} {r:β},inlX.inlR P x L b nid G k E' G'=some r→∃ s NL,zmh P x.rs E' G'=some s∧zv7 L b NL=true∧k (zbp (zeu L b G G' NL) s) (zmb L b G G' NL) ⟨[],L++NL.map Prod.fst⟩=some r ∧
   ∀ {γ:Type} (k2:TS→List (Nat×GB)→RT→Option γ),inlX.inlR P x L b nid G k2 E' G'=k2 (zbp (zeu L b G G' NL) s) (zmb L b G G' NL) ⟨[],L++NL.map Prod.fst⟩:=by
  intro β k r h
  unfold inlX.inlR at h
  split at h<;>try (cases h;done)
  rename_i s hs
  split at h<;>try (cases h;done)
  rename_i NL hN
  split at h<;>try (cases h;done)
  rename_i hx
  exact⟨s,NL,hs,hx,h,fun k2=>by unfold inlX.inlR;rw[hs];simp only[hN,hx]⟩
 unfold inlX at h
 split at h
 ·obtain⟨s,NL,h1,h2,h3,h4⟩:=key h
  exact⟨.inl rfl,s,NL,h1,h2,h3,fun k2=>by unfold inlX;exact h4 k2⟩
 ·obtain⟨s,NL,h1,h2,h3,h4⟩:=key h
  exact⟨.inr rfl,s,NL,h1,h2,h3,fun k2=>by unfold inlX;exact h4 k2⟩
 ·cases h
theorem jbv {P:Program} {sy:SyT} (hsy:zqj P sy) (hm:P.follows .mixedOrders=true) {fuel:Nat} {x:IE} (hx:z8v P x) {o:Oper} {cl:Call} (ho:o.op = .call cl) {nid:Nat} {E:EF} {G:EG} {q:SK} (h:inlK P sy fuel x cl nid E G=some q):z3g P o E G q:=by
 obtain⟨fn,hf,hb,hn,hr,hg⟩:=hx
 unfold inlK at h
 split at h<;>try (cases h;done)
 rename_i f az ht
 split at h<;>try (cases h;done)
 rename_i hfx
 simp only[Bool.and_eq_true] at hfx
 have hf1:=qn hfx.1
 have hf2:=Nat.le_of_ble_eq_true hfx.2
 subst hf1
 split at h<;>try (cases h;done)
 rename_i seen hseen
 simp only at h
 split at h<;>try (cases h;done)
 rename_i hnd
 cases h
 intro β k r hk
 obtain⟨e,nx',E',G',h1,hu,hoc⟩:=ym hm hsy x.c 1 _ _ _ _ _ hk
 obtain⟨he,s,NL,hs,hex,hkr,hu2⟩:=zsi h1
 refine⟨_,_,_,hkr,fun k2=>?_,fun id hid=>by rw[Z5] at hid;exact hid,fun W n F H hfl hd hF hH=>?_⟩
 ·show qg _ _ _ _ _ _ _ _ _ _ _ (inlX P x _ _ nid G k2)=_
  rw[hu];exact hu2 k2
 ·have hag:Agr o E G [] F H:=⟨hF,fun id h=>by cases h⟩
  refine PE.eff hd ho (zhc ho hag ht) hg hf hb (by rw[hn];exact hf2) hfl (zww hex) (Z1 hnd) (fun i hi=>hH i (.inr (by rw[Z5];exact hi))) he (fun W1 R1 hg1 hr1=>by rw[hn];exact hoc W1 R1 hg1 hr1) ?_
  rw[hr];exact hs
def z7u (it:Nat→Nat→FuncId→Option IE) (ctx site:Nat) (o:Oper) (E:EF):Option (IE×Call):=match o.op with
 | .call cl=>match zuy E cl with
  | some (f,_)=>match it ctx site f with
   | some x=>some (x,cl)
   | none=>none
  | none=>none
 | _=>none
theorem z0z {it:Nat→Nat→FuncId→Option IE} {ctx site:Nat} {o:Oper} {E:EF} {x:IE×Call} (h:z7u it ctx site o E=some x):o.op = .call x.2∧∃ ctx site f,it ctx site f=some x.1:=by
 unfold z7u at h
 split at h<;>try (cases h;done)
 rename_i cl ho
 split at h<;>try (cases h;done)
 rename_i f az ht
 split at h<;>cases h
 rename_i y hy
 exact⟨ho,_,_,_,hy⟩
end Go.Proofs.YtdllbdlnmjngcaaGreat.T

namespace Go.Proofs.YtdllbdlnmjngcaaGreat.T
open Go Go.RowKit L
set_option linter.unusedVariables false
set_option linter.unusedSimpArgs false
theorem wp_put {P:Program} {o:Oper} {a:Act} {w:World} {K:Act→World→Prop} {Q:Exit→Act→World→Prop} (hh:o.wp P a w K Q):o.wp P a w (fun a' w'=>K a' w'∧∃ v ds,a' = { a with defers:=ds }.put o.dst v) Q:=by
 unfold Oper.wp at *
 generalize (execOp a.eval o).run P w=r at *
 cases r with
 | ok n w'=>
  cases n<;>simp only[Oper.upon] at hh ⊢ <;>
   first
    | exact⟨hh,_,_,rfl⟩
    | exact⟨hh,_,a.defers,rfl⟩
    | exact Calls.mono hh (fun e w'' he=>by cases e<;>first | exact⟨he,_,a.defers,rfl⟩ | exact he)
    | exact Rows.mono hh (fun _ _ he=>⟨he,_,a.defers,rfl⟩)
 | halt x w'=>cases x<;>simp only[Oper.upon] at hh ⊢<;>exact hh
theorem put_at {a:Act} {ds:List Deferred} {d:Option Nat} {v:Value} {t:Nat} (h:d≠some t):({ a with defers:=ds }.put d v:Act).tmps.getD t undef=a.tmps.getD t undef:=by
 cases d with
 | none=>rfl
 | some d=>
  have e:d≠t:=fun e=>h (by rw[e])
  simp[Act.put,Array.getElem?_setIfInBounds_ne e]
def zv6 (D:List Nat) (G:EG):EG:=fun id=>match zdm D id with
 | true=>⟨(G id).ver+1,none⟩
 | false=>G id
def zfq (D:List Nat):Nat→Bool:=fun y=>Nat.beq (y % 2) 0 && zdm D (y / 2)
theorem zeo (D:List Nat) (id:Nat):zfq D (2*id)=zdm D id:=by
 unfold zfq
 rw[show 2*id % 2=0 by omega,show 2*id / 2=id by omega];simp
def zo0:List (Nat×Ty)→Nat→Option Ty
 | [],_=>none
 | x :: r,t=>match Nat.beq x.1 t with
  | true=>some x.2
  | false=>zo0 r t
def jb2 (D:List Nat) (sl:List (Nat×Ty)) (E:EF) (G:EG):EF:=fun t=>match zo0 sl t with
 | none=>E t
 | some ty=>match yv (Yx D G) ty (E t) with
  | some x => .v ⟨ty,x⟩
  | none=>E t
def zq3 (D:List Nat) (G:EG):List (Nat×GB):=D.map fun id=>(id,⟨(G id).ver+1,none⟩)
def SR.frz (D:List Nat) (G:EG) (q:SR):SR:={ q with w:=fun x=>zq3 D G++q.w x,tc:=D++q.tc }
theorem zhp:∀(a b:List (Nat×Qc)) (H:PHeap),yr H (a++b)=yr (yr H a) b
 | [],b,H=>rfl
 | x :: a,b,H=>by simp only[List.cons_append,yr];exact zhp a b _
section
variable {P : Program} {W : Env} {n : Nat} {F : PFrame} {H : PHeap} {o : Oper} {E : EF} {G : EG} {D : List Nat}
theorem z3f (hn:D.Nodup) (hH:∀ id∈D,H (2*id)=j8 (G id)):yr H (Zx (zq3 D G))=H.less (zfq D):=by
 have hk:(zq3 D G).map Prod.fst=D:=by unfold zq3;rw[List.map_map];exact List.map_id' D
 funext y
 unfold PHeap.less
 cases hy:zfq D y with
 | false=>
  simp only[Bool.false_eq_true,if_false]
  refine zji fun i hi e=>?_
  rw[hk] at hi
  subst e
  rw[zeo,Jh.2 hi] at hy;cases hy
 | true=>
  simp only[if_true]
  obtain⟨i,rfl⟩:∃ i,y=2*i:=by
   unfold zfq at hy
   simp only[Bool.and_eq_true] at hy
   exact⟨y / 2,by have:=qn hy.1;omega⟩
  rw[zeo] at hy
  have hi:=Jh.1 hy
  rw[zet (g:=⟨(G i).ver+1,none⟩) (by rw[hk];exact hn) (by unfold zq3;exact List.mem_map.2 ⟨i,hi,rfl⟩),hH i hi]
  rfl
theorem jaw (hH:∀ id∈D,H (2*id)=j8 (G id)) {id:Nat} (h:id∈D∨H (2*id)=j8 (G id)):H.less (zfq D) (2*id)=j8 (zv6 D G id):=by
 unfold PHeap.less zv6
 rw[zeo]
 cases hm:zdm D id with
 | true=>simp only[if_true];rw[hH id (Jh.1 hm)];rfl
 | false=>
  simp only[Bool.false_eq_true,if_false]
  rcases h with h | h
  ·rw[Jh.2 h] at hm;cases hm
  ·exact h
open Classical in
theorem SOk.frz {sl:List (Nat×Ty)} {q:SR} (hn:D.Nodup) (h:SOk P o (jb2 D sl E G) (zv6 D G) q):SOk P o E G (q.frz D G):=by
 obtain⟨h1,h2⟩:=h
 refine⟨fun x=>?_,fun x hx W n F H hfl hd hF hH V a w hr=>?_⟩
 ·have hx1:=h1 x
  show(zq3 D G++q.w x).map Prod.fst=D++q.tc
  rw[List.map_append]
  refine(congrArg (fun l=>List.map Prod.fst (zq3 D G)++l) hx1).trans ?_
  show List.map Prod.fst (zq3 D G)++q.tc=D++q.tc
  unfold zq3
  rw[List.map_map]
  congr 1
  exact List.map_id' D
 have hD:∀ id∈D,H (2*id)=j8 (G id):=fun id hid=>hH id (.inr (List.mem_append_left _ hid))
 have hq:∀ id,id∈q.rd∨id∈q.tc→H.less (zfq D) (2*id)=j8 (zv6 D G id):=fun id hid=>jaw hD (.inr (by
  rcases hid with hid | hid
  ·exact hH id (.inl hid)
  ·exact hH id (.inr (List.mem_append_right _ hid))))
 let F1:PFrame:=fun t=>match zo0 sl t with
  | none=>F t
  | some ty=>match yv (Yx D G) ty (E t) with
   | some x=>if Operand.tmp t∈o.op.operands then enc ty x else F t
   | none=>F t
 have hF1:∀ t,Operand.tmp t∈o.op.operands→F1 t=(jb2 D sl E G t).den:=fun t ht=>by
  show(match zo0 sl t with | none=>F t | some ty=>match yv (Yx D G) ty (E t) with | some x=>if Operand.tmp t∈o.op.operands then enc ty x else F t | none=>F t)=_
  unfold jb2
  cases zo0 sl t with
  | none=>exact hF t ht
  | some ty=>
   simp only
   cases yv (Yx D G) ty (E t) with
   | none=>exact hF t ht
   | some x=>simp only[if_pos ht,TS.den]
 let W1:Env:=W.push F a
 have hfl1:FlW W1 F1 (H.less (zfq D)):=by
  refine⟨fun i=>?_,fun t=>?_,fun k bd hb c hc=>?_⟩
  ·simp only[W1,Env.push]
   split
   ·exact hfl.f _
   ·exact hfl.g _
  ·show Fl (match zo0 sl t with | none=>F t | some ty=>match yv (Yx D G) ty (E t) with | some x=>if Operand.tmp t∈o.op.operands then enc ty x else F t | none=>F t)
   split
   ·exact hfl.f t
   ·split
    ·split
     ·exact .noP (J1 _ _)
     ·exact hfl.f t
    ·exact hfl.f t
  ·exact hfl.h k bd (zbo hb).2 c hc
 have hrel:Rel P W1 n F1 (H.less (zfq D)) V a w:=by
  refine⟨?_,hr.size,hr.defers,fun t=>?_⟩
  ·have hl:=hr.heap.less (D:=zfq D)
   refine⟨hl.below,hl.row,hl.box,hl.map,fun i=>?_,hl.apart,hl.zlt,hl.nz⟩
   simp only[W1,Env.push]
   split
   ·exact(hr.slot _).less
   ·exact(hr.heap.ghost _).less
  ·show Rp W.Z (H.less (zfq D)) V w (match zo0 sl t with | none=>F t | some ty=>match yv (Yx D G) ty (E t) with | some x=>if Operand.tmp t∈o.op.operands then enc ty x else F t | none=>F t) _
   split
   ·exact(hr.slot t).less
   ·rename_i ty hty
    split
    ·rename_i x hx
     split
     ·rename_i hop
      have hv:=(Jo (H:=H.only (zfq D)) (fun id hs=>?_) ty (E t) x hx).1
      ·have h1:=(hr.slot t).only (D:=zfq D)
       rw[hF t hop] at h1
       have h3:=hv P (W.kept H V (zfq D)) V w hr.heap.only _ h1
       refine h3.noP (J1 _ _) (fun b _ hz hz'=>hz (yc.2 ?_)) (Nat.le_refl _)
       rcases hz' with hz' | ⟨id,h3,h4⟩
       ·exact .inl hz'
       ·exact .inr ⟨id,(Jv h3).1,(Jv h3).2,h4⟩
      ·unfold PHeap.only
       rw[zeo]
       unfold Yx at *
       cases hm:zdm D id with
       | true=>simp only[if_true];exact hD id (Jh.1 hm)
       | false=>rw[hm] at hs;simp at hs
     ·exact(hr.slot t).less
    ·exact(hr.slot t).less
 have hpe:=h2 x hx W1 n F1 (H.less (zfq D)) hfl1 hd hF1 hq V a w hrel
 refine Oper.wp_mono (fun a' w' ⟨⟨p,H',V',⟨hp,hH'⟩,hr'⟩,v,ds,ha⟩=>?_) (wp_put hpe)
 refine⟨p,H',V',⟨hp,?_⟩,?_⟩
 ·rw[hH']
  show _=yr H (Zx (zq3 D G++q.w x))
  unfold Zx
  rw[List.map_append,zhp]
  exact congrArg (fun h=>yr h _) (z3f hn hD).symm
 ·have hg:=hr'.heap.ghost
  refine⟨⟨hr'.heap.below,hr'.heap.row,hr'.heap.box,hr'.heap.map,fun i=>?_,hr'.heap.apart,hr'.heap.zlt,hr'.heap.nz⟩,hr'.size,hr'.defers,fun t=>?_⟩
  ·have:=hg (2*i+1)
   simp only[W1,Env.push,show ¬((2*i+1) % 2=0) by omega,if_false] at this
   rwa [show(2*i+1) / 2=i by omega] at this
  ·by_cases e:o.dst=some t
   ·have:=hr'.slot t
    simp only[PFrame.put,if_pos e] at this ⊢
    exact this
   ·simp only[PFrame.put,if_neg e]
    have:=hg (2*t)
    simp only[W1,Env.push,Nat.mul_mod_right,if_true] at this
    rw[show 2*t / 2=t by omega] at this
    rw[ha,put_at e];exact this
end
def z8q (P:Program) (prs:Nat→Prm) (fz:Nat→Nat→List (Nat×Ty)):Sy1:=fun ctx nid site o E G=>match fz ctx site with
 | []=>zwd P (prs ctx) ctx nid site o E G
 | sl=>match zkh G 1000 (Yo G (zdf (sl.map fun x=>E x.1))) [] with
  | none=>none
  | some D=>match zee D with
   | false=>none
   | true=>match zwd P (prs ctx) ctx nid site o (jb2 D sl E G) (zv6 D G) with
    | some q=>some (q.frz D G)
    | none=>none
theorem z57 {P:Program} {prs:Nat→Prm} {fz:Nat→Nat→List (Nat×Ty)} (hS:∀ c,Jl P (prs c).S) (hzt:∀ c,zdl P (prs c).zt) (hzt2:∀ c,zdl P (prs c).zt2):∀ ctx nid site o E G q,z8q P prs fz ctx nid site o E G=some q→SOk P o E G q:=fun ctx nid site o E G q h=>by
 unfold z8q at h
 split at h
 ·exact zyt (hS _) (hzt _) (hzt2 _) _ _ _ _ _ _ _ h
 ·split at h<;>try (cases h;done)
  rename_i D hD
  split at h<;>try (cases h;done)
  rename_i hn
  split at h<;>cases h
  rename_i q' hq'
  exact SOk.frz (Z1 hn) (zyt (hS _) (hzt _) (hzt2 _) _ _ _ _ _ _ _ hq')
end Go.Proofs.YtdllbdlnmjngcaaGreat.T

namespace Go.Proofs.YtdllbdlnmjngcaaGreat.T
open Go Go.RowKit L
set_option linter.unusedVariables false
set_option linter.unusedSimpArgs false
theorem flatI (l:List Int):l.flatMap (encC (.int .i64))=l.map I:=by
 induction l with
 | nil=>rfl
 | cons a l ih=>rw[List.flatMap_cons,ih];rfl
theorem zyf (tid v:Nat) (l:List Int):j8 ⟨v,some (.row tid (.int .i64) l)⟩ = ⟨v,some (.row tid 1 l.length (l.map I))⟩:=
 congrArg (fun cs=>(⟨v,some (.row tid 1 l.length cs)⟩:Qc)) (flatI l)
def zpv (G:EG) (x:TS):Option (Nat×Nat×List Int):=match x with
 | .own id ver=>match Nat.beq (G id).ver ver with
  | true=>match (G id).b with
   | some (.row tid t l)=>match Nat.beq tid 3 with
    | true=>match Dyn.as ⟨.sl t,l⟩ (.sl (.int .i64)) with
     | some l=>some (id,ver,l)
     | none=>none
    | false=>none
   | _=>none
  | false=>none
 | _=>none
theorem zih {G:EG} {x:TS} {r:Nat×Nat×List Int} (h:zpv G x=some r):x = .own r.1 r.2.1∧G r.1 = ⟨r.2.1,some (.row 3 (.int .i64) r.2.2)⟩:=by
 unfold zpv at h
 split at h<;>try (cases h;done)
 rename_i id ver
 split at h<;>try (cases h;done)
 rename_i hv
 split at h<;>try (cases h;done)
 rename_i tid t l hb
 split at h<;>try (cases h;done)
 rename_i ht
 split at h<;>cases h
 rename_i l' hl
 have:=Dyn.as_eq hl
 injection this with e1 e2
 injection e1 with e1
 subst e1
 have e2:=eq_of_heq e2
 subst e2
 refine⟨rfl,?_⟩
 simp only
 cases hG:G id with
 | mk v b=>
  rw[hG] at hv hb
  simp only at hv hb
  rw[qn hv,hb,qn ht]
def z3o (l:List Int):BD := .row 3 (.int .i64) l
noncomputable def jcg (o:Oper) (nid:Nat) (G:EG) (f:FuncId) (x:TS):Option SR:=match Nat.beq f 163 with
 | true=>match zpv G x with
  | some r=>some ⟨List Int,false,small7 r.2.2 (Vy r.2.2),fun _ => .c (.tuple #[]),fun ys=>[(r.1,⟨r.2.1,some (z3o ys)⟩)],[],[r.1]⟩
  | none=>none
 | false=>match Nat.beq f 164 with
  | true=>match zpv G x with
   | some r=>some ⟨List Int,false,small7 r.2.2 (Jj r.2.2),fun _ => .own r.1 (r.2.1+1),fun ys=>[(r.1,⟨r.2.1+1,some (z3o ys)⟩)],[],[r.1]⟩
   | none=>none
  | false=>match Nat.beq f 174 with
   | true=>match Jy o with
    | true=>match zn8 x with
     | true=>match toT (.sl (.int .i64)) x with
      | some l=>some ⟨List Int,false,small7 l l,fun _ => .own nid ((G nid).ver+1),fun ys=>[(nid,⟨(G nid).ver+1,some (z3o ys)⟩)],[],[nid]⟩
      | none=>none
     | false=>match zpv G x with
      | some r=>match Nat.beq r.1 nid with
       | true=>none
       | false=>some ⟨List Int,false,small7 r.2.2 r.2.2,fun _ => .own nid ((G nid).ver+1),fun ys=>[(nid,⟨(G nid).ver+1,some (z3o ys)⟩)],[r.1],[nid]⟩
      | none=>none
    | false=>none
   | false=>none
def Zi {α:Type} (l:List α) (z:Int):Option (List α):=match decide (0≤z) && decide (z≤l.length) with
 | true=>some (l.take z.toNat)
 | false=>none
noncomputable def z09 (es:Option Nat) (o:Oper) (G:EG) (x y:TS):Option SR:=match Jy o with
 | false=>none
 | true=>match x with
  | .own id ver=>match Nat.beq (G id).ver ver with
   | true=>match (G id).b with
    | some (.row tid t l)=>match oeq es (some (wid t)) with
     | true=>qp (zbc y) fun z=>some ⟨List t.D,false,Zi l z,fun _ => .own id (ver+1),fun l'=>[(id,⟨ver+1,some (.row tid t l')⟩)],[],[id]⟩
     | false=>none
    | _=>none
   | false=>none
  | _=>none
noncomputable def z76 (ty:TypeId) (x i:TS):Option SR:=match x with
 | .v ⟨.arr n t,a⟩=>match arr Tryz.prog ty with
  | some (n',k)=>match z6r Tryz.prog ty with
   | some e=>match asz Tryz.prog e with
    | some (ag,k')=>match Nat.beq n' n && Nat.beq k (wid t) && Nat.beq k' k && (ag || Nat.beq k 1) with
     | true=>qp (zbc i) fun z=>some (.dat t.D (atL a.l z) (fun y=>Yt ag [.v ⟨t,y⟩]) [])
     | false=>none
    | none=>none
   | none=>none
  | none=>none
 | _=>none
noncomputable def sLib (o:Oper) (nid:Nat) (E:EF) (G:EG):Option SR:=match o.op with
 | .index t x i=>z76 t (evE E x) (evE E i)
 | .slice t x none (some y) none=>z09 (esz Tryz.prog t) o G (evE E x) (evE E y)
 | .call ⟨.value (.func f),⟨[x]⟩,_⟩=>jcg o nid G f (evE E x)
 | _=>none
section
variable {P : Program} {o : Oper} {E : EF} {G : EG}
set_option maxRecDepth 100000 in
theorem z8f {ty:TypeId} {x i:Operand} {q:SR} (ho:o.op = .index ty x i) (h:z76 ty (evE E x) (evE E i)=some q):SOk Tryz.prog o E G q:=by
 have hx':x∈o.op.operands:=by rw[ho];simp[Op.operands]
 have hi':i∈o.op.operands:=by rw[ho];simp[Op.operands]
 unfold z76 at h
 split at h<;>try (cases h;done)
 rename_i n t a hx
 split at h<;>try (cases h;done)
 rename_i n' k har
 split at h<;>try (cases h;done)
 rename_i e hae
 split at h<;>try (cases h;done)
 rename_i ag k' hsz
 split at h<;>try (cases h;done)
 rename_i hb
 simp only[Bool.and_eq_true] at hb
 obtain⟨⟨⟨h1,h2⟩,h3⟩,h4⟩:=hb
 have h1:=qn h1
 have h2:=qn h2
 have h3:=qn h3
 subst h1;subst h2;subst h3
 obtain⟨z,hz,h⟩:=jm h
 cases h
 obtain⟨kd,hkd⟩:=Vj hz
 refine SOk.dat fun y hy W F H hag=>?_
 obtain⟨h0,hyz⟩:=zeg hy
 obtain⟨rest,hr⟩:=Zt (encC t) (wid t) a.l (fun x _=>jr t x) _ _ hyz
 obtain⟨p,hp1,hp2⟩:=z2g (ag:=ag) (k:=wid t) (xs:=[.v ⟨t,y⟩]) (rest:=rest) (by simp only[jq,TS.den,enc_cells,List.append_nil,jr]) (fun e=>by rw[e] at h4;simp at h4;exact h4)
 refine PQ.ref (jc ?_) hp2
 unfold jp;rw[ho]
 simp only
 rw[hag.ev hx',hag.ev hi',hkd,hx]
 simp only[TS.den]
 have hlt:z.toNat<n':=by
  have:=(List.getElem?_eq_some_iff.1 hyz).1
  rw[a.h] at this;exact this
 have hd:jq [.v ⟨t,y⟩]=encC t y:=by simp only[jq,TS.den,enc_cells,List.append_nil]
 rw[hd,← hr] at hp1
 show zgd Tryz.prog ty (.agg (a.l.flatMap (encC t))) (.u (.int kd z))=some p
 unfold zgd
 simp only[har,hae]
 rw[if_pos ⟨h0,hlt⟩]
 unfold zru
 rw[hsz]
 exact hp1
set_option maxRecDepth 100000 in
theorem z34 {t:TypeId} {x y:Operand} {q:SR} (ho:o.op = .slice t x none (some y) none) (h:z09 (esz Tryz.prog t) o G (evE E x) (evE E y)=some q):SOk Tryz.prog o E G q:=by
 have hev:∀ {F:PFrame} {z:Operand},z∈o.op.operands→(∀ t,Operand.tmp t∈o.op.operands→F t=(E t).den)→evP F z=(evE E z).den:=fun {F z} hz hF=>(Agr.mk (rd:=[]) (G:=G) (H:=PHeap.empty) hF (fun id h=>by cases h)).ev hz
 unfold z09 at h
 split at h<;>try (cases h;done)
 rename_i hds
 obtain⟨d,hds⟩:=zm hds
 split at h<;>try (cases h;done)
 rename_i id ver hx
 split at h<;>try (cases h;done)
 rename_i hv
 have hv:=qn hv
 split at h<;>try (cases h;done)
 rename_i tid ty l hb
 split at h<;>try (cases h;done)
 rename_i hes
 have hes:=zf4 hes
 obtain⟨z,hz,h⟩:=jm h
 cases h
 obtain⟨kd,hkd⟩:=Vj hz
 refine⟨fun _=>rfl,fun l' hl W n F H hfl hd hF hH=>?_⟩
 unfold Zi at hl
 split at hl<;>cases hl
 rename_i hb2
 simp only[Bool.and_eq_true,decide_eq_true_eq] at hb2
 obtain⟨j,rfl⟩:∃ j:Nat,z=j:=⟨z.toNat,by omega⟩
 have hj:j≤l.length:=by omega
 have hHid:=hH id (.inr (by simp))
 refine PE.trunc (id:=2*id) (kd:=kd) (j:=j) ho hds (hd d hds) hes (by rw[hev (by rw[ho];simp[Op.operands]) hF,hx];simp only[TS.den]) (vc hHid hb rfl hv) (by rw[hev (by rw[ho];simp[Op.operands]) hF,hkd]) hj ⟨by simp only[TS.den],?_⟩
 simp only[Zx,List.map_cons,List.map_nil,yr,j8,Option.map_some,BD.den,Int.toNat_natCast]
 have e1:(l.take j).length=j:=by rw[List.length_take];omega
 have e2:(l.flatMap (encC ty)).take (j*wid ty)=(l.take j).flatMap (encC ty):=by
  have e3:l.flatMap (encC ty)=(l.take j).flatMap (encC ty)++(l.drop j).flatMap (encC ty):=by rw[← List.flatMap_append,List.take_append_drop]
  have e4:((l.take j).flatMap (encC ty)).length=j*wid ty:=by rw[zh _ (wid ty) _ fun x _=>jr ty x,e1]
  rw[e3,List.take_left' e4]
 rw[e1,e2]
theorem jbz {nid:Nat} {q:SR} (h:sLib o nid E G=some q):SOk Tryz.prog o E G q:=by
 unfold sLib at h
 split at h<;>try (cases h;done)
 ·rename_i ho;exact z8f ho h
 ·rename_i ho;exact z34 ho h
 rename_i f x ts ho
 have hx':x∈o.op.operands:=by rw[ho];simp[Op.operands,Call.operands]
 have hev:∀ {F:PFrame},(∀ t,Operand.tmp t∈o.op.operands→F t=(E t).den)→evP F x=(evE E x).den:=fun {F} hF=>(Agr.mk (rd:=[]) (G:=G) (H:=PHeap.empty) hF (fun id h=>by cases h)).ev hx'
 have hrow:∀ {H:PHeap} {r:Nat×Nat×List Int},G r.1 = ⟨r.2.1,some (.row 3 (.int .i64) r.2.2)⟩→H (2*r.1)=j8 (G r.1)→H (2*r.1) = ⟨r.2.1,some (.row 3 1 r.2.2.length (r.2.2.map I))⟩:=fun {H r} hG hH=>by
  rw[hH,hG];exact zyf _ _ _
 have hset:∀ {H:PHeap} {id v:Nat} {ys:List Int},H.set (2*id) ⟨v,some (.row 3 1 ys.length (ys.map I))⟩=yr H (Zx [(id,⟨v,some (z3o ys)⟩)]):=fun {H id v ys}=>by
  simp only[Zx,List.map_cons,List.map_nil,yr]
  exact congrArg (fun b=>H.set (2*id) b) (zyf _ _ _).symm
 unfold jcg at h
 split at h
 ·rename_i hf
  have hf:=qn hf
  subst hf
  split at h<;>cases h
  rename_i r hr
  obtain⟨h1,h2⟩:=zih hr
  refine⟨fun _=>rfl,fun ys hy W n F H hfl hd hF hH=>?_⟩
  obtain⟨hl,rfl⟩:=zax hy
  have hlen:(Vy r.2.2).length=r.2.2.length:=List.length_mergeSort _
  refine PE.onInts (d:=0) (back:=false) (id:=2*r.1) (ver:=r.2.1) (xs:=r.2.2) (ys:=Vy r.2.2) ho hd (by kernel_rfl) ?_ (hrow h2 (hH _ (.inr (by simp)))) (fun v B w hv=>(z72 v r.2.2 B w hv hl).mono fun e w' ⟨h1,h2,h3⟩=>⟨_,v,h1,by rw[hlen];exact h2,h3,fun g hg=>hg,by simp⟩) ?_
  ·rw[hev hF,h1];simp only[TS.den]
  ·simp only[Bool.false_eq_true,if_false]
   exact⟨by simp only[TS.den];rfl,hset⟩
 ·split at h
  ·rename_i hf
   have hf:=qn hf
   subst hf
   split at h<;>cases h
   rename_i r hr
   obtain⟨h1,h2⟩:=zih hr
   refine⟨fun _=>rfl,fun ys hy W n F H hfl hd hF hH=>?_⟩
   obtain⟨hl,rfl⟩:=zax hy
   refine PE.onInts (d:=0) (back:=true) (id:=2*r.1) (ver:=r.2.1) (xs:=r.2.2) (ys:=Jj r.2.2) ho hd (by kernel_rfl) ?_ (hrow h2 (hH _ (.inr (by simp)))) (fun v B w hv=>(zx2 v r.2.2 B w hv hl).mono fun e w' ⟨v',h1,h2,h3,h4⟩=>⟨v',v',h1,h2,h3,h4,by simp⟩) ?_
   ·rw[hev hF,h1];simp only[TS.den]
   ·simp only[if_true]
    exact⟨by simp only[TS.den],hset⟩
  ·split at h<;>try (cases h;done)
   rename_i hf
   have hf:=qn hf
   subst hf
   split at h<;>try (cases h;done)
   rename_i hds
   obtain⟨d,hds⟩:=zm hds
   have key:∀ {l:List Int} {rd:List Nat},(∀ {W n F H},FlW W F H→jn n o→(∀ t,Operand.tmp t∈o.op.operands→F t=(E t).den)→(∀ id,id∈rd∨id∈[nid]→H (2*id)=j8 (G id))→View H (evE E x).den (slI l))→SOk Tryz.prog o E G ⟨List Int,false,small7 l l,fun _ => .own nid ((G nid).ver+1),fun ys=>[(nid,⟨(G nid).ver+1,some (z3o ys)⟩)],rd,[nid]⟩:=fun {l rd} hv=>by
    refine⟨fun _=>rfl,fun ys hy W n F H hfl hd hF hH=>?_⟩
    obtain⟨hl,hye⟩:=zax hy
    cases hye
    have hnid:=hH nid (.inr (by simp))
    have hvw:=hv hfl hd hF hH
    have htg:yk F ⟨.value (.func 174),#[x],ts⟩=some (174,[evP F x]):=by rw[Y6];rfl
    refine PE.callOwn (id:=2*nid) hds (hd d hds) ho htg (by kernel_rfl) (qs:=[slI l]) ⟨rfl,fun i p q h1 h2=>?_⟩ (zsg hl) fun m us hR hl2=>?_
    ·cases i with
     | zero=>simp at h1 h2;subst h1 h2;rw[hev hF];exact hvw
     | succ i=>simp at h1
    ·obtain⟨rfl,rfl⟩:=hR
     have e:(H (2*nid)).ver=(G nid).ver:=by rw[hnid];rfl
     refine⟨by simp only[TS.den,e],?_⟩
     rw[e,← hset]
     rw[List.map_map];rfl
   split at h
   ·rename_i hni
    split at h<;>cases h
    rename_i l hl
    refine key fun {W n F H} hfl hd hF hH=>?_
    have:=(Za _ _ _ hl).2
    exact View.ref (View.noP (z19 _ hni)) this
   ·split at h<;>try (cases h;done)
    rename_i r hr
    obtain⟨h1,h2⟩:=zih hr
    split at h<;>cases h
    refine key fun {W n F H} hfl hd hF hH=>?_
    have hv:=(Jo (G:=Yx [r.1] G) (H:=H) (fun id hs=>by
     unfold Yx at *
     cases hm:zdm [r.1] id with
     | true=>
      have:=Jh.1 hm
      simp only[List.mem_singleton] at this
      subst this
      exact hH _ (.inl (by simp))
     | false=>rw[hm] at hs;simp at hs) (.sl (.int .i64)) (evE E x) r.2.2 ?_).1
    ·exact hv
    ·rw[h1]
     simp only[yv,Yx]
     have:zdm [r.1] r.1=true:=Jh.2 (by simp)
     simp only[this,h2,Nat.beq_refl,Dyn.as]
     rfl
end
noncomputable def z56 (prs:Nat→Prm) (fz:Nat→Nat→List (Nat×Ty)):Sy1:=fun ctx nid site o E G=>match sLib o nid E G with
 | some q=>some q
 | none=>z8q Tryz.prog prs fz ctx nid site o E G
theorem z85 {prs:Nat→Prm} {fz:Nat→Nat→List (Nat×Ty)} (hS:∀ c,Jl Tryz.prog (prs c).S) (hzt:∀ c,zdl Tryz.prog (prs c).zt) (hzt2:∀ c,zdl Tryz.prog (prs c).zt2):∀ ctx nid site o E G q,z56 prs fz ctx nid site o E G=some q→SOk Tryz.prog o E G q:=fun ctx nid site o E G q h=>by
 unfold z56 at h
 split at h
 ·rename_i q' hq;cases h;exact jbz hq
 ·exact z57 hS hzt hzt2 _ _ _ _ _ _ _ h
end Go.Proofs.YtdllbdlnmjngcaaGreat.T

namespace Go.Proofs.YtdllbdlnmjngcaaGreat.T
open Go Go.RowKit L
set_option linter.unusedVariables false
set_option linter.unusedSimpArgs false
section
variable {P : Program} {W : Env} {n : Nat} {F : PFrame} {H : PHeap}
theorem PE.callFV {o:Oper} {c:Call} {ps qs:List PV} {f:FuncId} {t:TypeId} {kk d id:Nat} {xs:List PV} {k:PV→PHeap→Prop} (hd:o.dst=some d) (hdn:d<n) (ho:o.op = .call c) (ht:yk F c=some (f,ps)) (hf:ya P f=true) (hv:ViewL H ps qs) (hn:∀ p∈qs,NoF p) (hc:PCall P f qs (· = .fr t kk xs)) (hs:∀ p∈xs.flatMap PV.cells,Sc p)
  (hk:k (.ps id ((H id).ver+1)) (H.set id ⟨(H id).ver+1,some (.row t kk xs.length (xs.flatMap PV.cells))⟩)):PE P W n o F H k:=fun V a w hr=>by
 obtain⟨vs,he,hR⟩:=Ji (P:=P) (W:=W) (H:=H) (V:=V) (a:=a) (w:=w) ho ht hf fun x hx'=>Rp.eval (P:=P) x fun t ht=>hr.slot t
 have hsz:=hr.heap.below.size
 have hR1:=hR.view hr.heap hv
 have hR2:RpL ⟨W.Z.z,w.heap.size⟩ PHeap.empty V0 w qs vs:=⟨hR1.1,fun i p v h1 h2=>(hR1.2 i p v h1 h2).noF (hn p (List.mem_of_getElem? h1)) fun b _ hz hz'=>hz (yc.2 (yc.1 hz'))⟩
 refine za2 he ((hc ⟨W.Z.z,w.heap.size⟩ w vs (Env.z_lt hr.heap) (Nat.le_refl _) hR2).mono fun e w' ⟨v,p,h1,h2,hnp,h3,hb⟩=>⟨v,h1,?_⟩)
 subst h2
 cases h3 with
 | fr _ _ _ _ vals hu ho2 hz h4 h5=>
  refine⟨_,_,vd V id v,hk,?_⟩
  have hnew:∀ g,jy v=some g→w.heap.size≤g:=fun g hg=>(zc8 ho2 hg).1
  have hown:w'.ownsRow W.w.heap.size t kk v xs.length vals:=⟨ho2.1,by
   rcases ho2.2 with h6 | ⟨g,cap,cur,e,hg,r⟩
   ·exact .inl h6
   ·exact .inr ⟨g,cap,cur,e,Nat.le_trans hsz hg,r⟩⟩
  have hturn:=Turn.new (b':=⟨(H id).ver+1,some (.row t kk xs.length (xs.flatMap PV.cells))⟩) (id:=id) (v0:=v) hr.heap hb rfl hnew
  refine hr.turn hturn (fun bd hbd=>?_) o.dst (fun t ht=>by rw[hd] at ht;cases ht;exact hdn) ?_
  ·cases hbd
   refine⟨vals,hown,⟨?_,fun i p u hi hj=>?_⟩,h4⟩
   ·rw[flat_length xs hu,ho2.1]
   ·exact(h5 i p u hi hj).sc (hs p (List.mem_of_getElem? hi))
  ·refine .ps _ _ _ ?_ fun _ _=>?_
   ·simp[PHeap.set]
   ·simp[vd]
theorem View.ownFr {id ver k:Nat} {t:TypeId} {xs:List PV} (hl:qj H id ver=some (t,k,xs.length,xs.flatMap PV.cells)) (hu:∀ y∈xs,y.cells.length=k) (hn:∀ c∈xs.flatMap PV.cells,NoP c):View H (.ps id ver) (.fr t k xs):=fun P W V w hr v hv=>by
 obtain⟨hb,hve⟩:=qw hl
 obtain⟨vals,ho,hR,h1⟩:=hr.row id _ _ _ _ hb
 cases hv with
 | ps _ _ _ hvv hh=>
  have e:=hh (by rw[hb];rfl) hve
  subst e
  refine .fr t k xs _ vals hu (Vn (w':=w) ho W.hm fun _ _ _=>rfl) (fun b hb2 hz=>?_) h1 fun i p u h3 h4=>(hR.2 i p u h3 h4).noP (hn p (List.mem_of_getElem? h3)) fun b _ hz hz'=>hz (.inl (yc.1 hz'))
  exact hr.nz id b (by rw[hb];rfl) hb2 (yc.1 hz)
end
def zo7 (G:EG) (e:TypeId) (t:Ty) (s:TS):Option (List t.D):=match s with
 | .own id ver=>match Nat.beq (G id).ver ver with
  | true=>match (G id).b with
   | some (.row tid t' l)=>match Nat.beq tid e with
    | true=>Dyn.as ⟨.sl t',l⟩ (.sl t)
    | false=>none
   | _=>none
  | false=>none
 | .c v=>match jbc v with
  | true=>some []
  | false=>none
 | _=>none
theorem z4r {G:EG} {e:TypeId} {t:Ty} {s:TS} {l:List t.D} {H:PHeap} (hG:∀ id,(G id).b.isSome=true→H (2*id)=j8 (G id)) (h:zo7 G e t s=some l):View H s.den (.fr e (wid t) (l.map (enc t))):=by
 unfold zo7 at h
 split at h<;>try (cases h;done)
 ·rename_i id ver
  split at h<;>try (cases h;done)
  rename_i hv
  have hv:=qn hv
  split at h<;>try (cases h;done)
  rename_i tid t' l' hb
  split at h<;>try (cases h;done)
  rename_i ht
  have ht:=qn ht
  subst ht
  have:=Dyn.as_eq h
  injection this with e1 e2
  injection e1 with e1
  subst e1
  have e2:=eq_of_heq e2
  subst e2
  simp only[TS.den]
  refine View.ownFr (vc (hG id (by rw[hb];rfl)) hb (by simp only[BD.den,List.length_map,Va]) hv) (fun y hy=>?_) fun c hc=>?_
  ·obtain⟨z,_,rfl⟩:=List.mem_map.1 hy;rw[enc_cells,jr]
  ·rw[Va] at hc
   obtain⟨z,_,hz⟩:=List.mem_flatMap.1 hc
   exact vi _ _ _ hz
 ·split at h<;>cases h
  rename_i v hn
  rw[z18 hn]
  simp only[TS.den,List.map_nil]
  exact View.nilFr
def funF (P:Program) (sy:SyT) (hint:Nat→Option HK) (n:Nat) (rs:List ResultVar) (c:Code) (ats:List Ty) (e:TypeId) (rt:Ty) (nn:Nat) (t:DL ats):Option (List rt.D):=
 qg sy nn hint 0 0 n c 1 0 (z23 (za ats t)) EG.empty fun ex _ E G=>match ex with
  | .normal=>match zmh P rs E G with
   | some s=>zo7 G e rt s
   | none=>none
  | .ret=>match zmh P rs E G with
   | some s=>zo7 G e rt s
   | none=>none
  | _=>none
def zgx (P:Program) (f:FuncId) (ats:List Ty) (e:TypeId) (rt:Ty) (g:DL ats→Option (List rt.D)):Prop:=
 ya P f=true∧∀ t r,g t=some r→PCall P f (pvs (za ats t)) (· = .fr e (wid rt) (r.map (enc rt)))
theorem z9s {P:Program} {sy:SyT} (hsy:zqj P sy) (hm:P.follows .mixedOrders=true) {hint:Nat→Option HK} {n:Nat} {rs:List ResultVar} {c:Code} {ats:List Ty} {ee:TypeId} {rt:Ty} {nn:Nat} {f:FuncId} {fn:Func} (hf:P.funcs[f]? = some fn) (hb:fn.body=some c) (hn:fn.ntmps=n) (hr:fn.results.toList=rs) (hl:Nat.ble ats.length n=true) (hg:ya P f=true):zgx P f ats ee rt (funF P sy hint n rs c ats ee rt nn):=by
 subst hn;subst hr
 refine⟨hg,fun t r h=>?_⟩
 have hl':(pvs (za ats t)).length≤fn.ntmps:=by unfold pvs;rw[List.length_map,zoa];exact Nat.le_of_ble_eq_true hl
 refine PCall.introG hf hb hl' fun W hW=>?_
 have hR:RestOk 0 PHeap.empty:=fun i bd h=>by simp[PHeap.empty] at h
 have hGh:GhOk 0 W:=fun i=>by rw[hW];exact .unk
 obtain⟨e,nx,E',G',h3,_,ho⟩:=ym (P:=P) (fuel:=nn) (hint:=hint) (ctx:=0) (n:=fn.ntmps) (b:=0) hm hsy c 1 0 (z23 (za ats t)) EG.empty _ r h
 have this:=ho W PHeap.empty hGh hR
 rw[zrh] at this
 rw[zpa]
 refine PC.mono this fun e2 F' H' ⟨h0,h1,h2⟩=>?_
 subst h0;subst h1;subst h2
 have key:∀ {o:Option TS},o=zmh P fn.results.toList E' G'→(match o with
   | some s=>zo7 G' ee rt s
   | none=>none)=some r→∃ q p,Y8 P fn (yh E') (j5 G' PHeap.empty)=some q∧View (j5 G' PHeap.empty) q p∧NoP p∧p = .fr ee (wid rt) (r.map (enc rt)):=fun {o} ho h=>by
  cases o with
  | none=>cases h
  | some s=>
   simp only at h
   obtain⟨q,hq,hrq⟩:=ztk (R:=PHeap.empty) ho.symm
   have hv:=z4r (H:=j5 G' PHeap.empty) (fun id _=>j0 G' PHeap.empty id) h
   exact⟨q,_,hq,fun P W V w hw v hv'=>hv P W V w hw v (hrq _ _ _ _ _ hv'), .fr _ _ _ fun c hc=>by obtain⟨z,_,rfl⟩:=List.mem_map.1 hc;exact J1 _ _,rfl⟩
 cases e2 with
 | normal=>exact⟨.inl rfl,key rfl h3⟩
 | ret=>exact⟨.inr rfl,key rfl h3⟩
 | _=>cases h3
theorem zvc {t:Ty} {cs:List PV} (h:∀ c∈cs,NoF c) (hn:Jq t=false→cs≠[]):NoF (mkV t cs):=by
 unfold mkV
 cases ha:Jq t with
 | true=>exact .agg _ h
 | false=>
  match cs,hn ha with
  | c :: r,_=>exact h c (by simp)
theorem Yv:∀(t:Ty) (x:t.D),∀ c∈encC t x,NoF c
 | .int _,_,c,h=>by simp only[encC,List.mem_singleton] at h;subst h;exact .u _
 | .bool,_,c,h=>by simp only[encC,List.mem_singleton] at h;subst h;exact .u _
 | .str,_,c,h=>by simp only[encC,List.mem_singleton] at h;subst h;exact .u _
 | .sl t,l,c,h=>by
  simp only[encC,List.mem_singleton] at h;subst h
  refine .sl _ _ fun c hc=>?_
  obtain⟨x,_,rfl⟩:=List.mem_map.1 hc
  exact zvc (Yv t x) (zmv x)
 | .ref t,o,c,h=>by
  simp only[encC,List.mem_singleton] at h;subst h
  cases o with
  | none=>exact .u _
  | some x=>exact .rp _ (Yv t x)
 | .arr n t,v,c,h=>by
  simp only[encC] at h
  obtain⟨x,_,hx⟩:=List.mem_flatMap.1 h
  exact Yv t x c hx
 | .nil,_,c,h=>by simp[encC] at h
 | .cons a r,x,c,h=>by
  simp only[encC,List.mem_append] at h
  rcases h with h | h
  ·exact Yv a _ c h
  ·exact Yv r _ c h
 | .st r,x,c,h=>by simp only[encC] at h;exact Yv r _ c h
 | .tup r,x,c,h=>by
  simp only[encC,List.mem_singleton] at h;subst h
  exact .tup _ (zf8 r _ (jr r x) (Yv r x) fun h1 h2=>zvc h1 h2)
theorem jbb (t:Ty) (x:t.D):NoF (enc t x):=zvc (Yv t x) (zmv x)
structure FF where
 ats:List Ty
 e:TypeId
 rt:Ty
 g:DL ats→Option (List rt.D)
def Zj (P:Program) (T:FuncId→Option FF):Prop:=∀ f x,T f=some x→zgx P f x.ats x.e x.rt x.g
def z0h (T:FuncId→Option FF) (o:Oper) (nid:Nat) (E:EF) (G:EG) (c:Call):Option SR:=match Jy o with
 | false=>none
 | true=>match zuy E c with
  | none=>none
  | some (f,az)=>match T f with
   | none=>none
   | some x=>match scT x.rt with
    | false=>none
    | true=>match zkh G 1000 (Yo G (zdf az)) [] with
     | none=>none
     | some D=>match rdV (Yx D G) x.ats az with
      | some t=>some ⟨List x.rt.D,false,x.g t,fun _ => .own nid ((G nid).ver+1),fun l=>[(nid,⟨(G nid).ver+1,some (.row x.e x.rt l)⟩)],D,[nid]⟩
      | none=>none
theorem z27 {P:Program} {T:FuncId→Option FF} (hT:Zj P T) {o:Oper} {nid:Nat} {E:EF} {G:EG} {c:Call} {q:SR} (ho:o.op = .call c) (h:z0h T o nid E G c=some q):SOk P o E G q:=by
 unfold z0h at h
 split at h<;>try (cases h;done)
 rename_i hds
 obtain⟨d,hds⟩:=zm hds
 split at h<;>try (cases h;done)
 rename_i f az ht
 split at h<;>try (cases h;done)
 rename_i x hx
 split at h<;>try (cases h;done)
 rename_i hsc
 split at h<;>try (cases h;done)
 rename_i D hD
 split at h<;>cases h
 rename_i t hrd
 obtain⟨hg,hc⟩:=hT f x hx
 refine⟨fun _=>rfl,fun r hr W n F H hfl hd hF hH=>?_⟩
 have hv:=z0p (H:=H) (fun id hs=>by
  unfold Yx at *
  cases hm:zdm D id with
  | true=>exact hH id (.inl (Jh.1 hm))
  | false=>rw[hm] at hs;simp at hs) hrd
 have hag:Agr o E G D F H:=⟨hF,fun id hid=>hH id (.inl hid)⟩
 have hnid:=hH nid (.inr (by simp))
 have e:(H (2*nid)).ver=(G nid).ver:=by rw[hnid];rfl
 refine PE.callFV (id:=2*nid) hds (hd d hds) ho (zhc ho hag ht) hg hv (fun p hp=>?_) (hc t r hr) (fun p hp=>?_) ⟨by simp only[TS.den,e],?_⟩
 ·unfold pvs at hp
  obtain⟨y,_,rfl⟩:=List.mem_map.1 hp
  exact jbb _ _
 ·rw[Va] at hp
  obtain⟨z,_,hz⟩:=List.mem_flatMap.1 hp
  exact zcp _ _ hsc p hz
 ·simp only[Zx,List.map_cons,List.map_nil,yr,j8,Option.map_some,BD.den,e,Va,List.length_map]
end Go.Proofs.YtdllbdlnmjngcaaGreat.T

namespace Go.Proofs.YtdllbdlnmjngcaaGreat.T
open Go Go.RowKit L
set_option linter.unusedVariables false
set_option linter.unusedSimpArgs false
noncomputable def z6k (prs:Nat→Prm) (fz:Nat→Nat→List (Nat×Ty)) (fr:Nat→Nat→Bool) (T:FuncId→Option FF):Sy1:=fun ctx nid site o E G=>match fr ctx site with
 | true=>match o.op with
  | .call c=>z0h T o nid E G c
  | _=>none
 | false=>z56 prs fz ctx nid site o E G
theorem z6q {prs:Nat→Prm} {fz:Nat→Nat→List (Nat×Ty)} {fr:Nat→Nat→Bool} {T:FuncId→Option FF} (hT:Zj Tryz.prog T) (hS:∀ c,Jl Tryz.prog (prs c).S) (hzt:∀ c,zdl Tryz.prog (prs c).zt) (hzt2:∀ c,zdl Tryz.prog (prs c).zt2):∀ ctx nid site o E G q,z6k prs fz fr T ctx nid site o E G=some q→SOk Tryz.prog o E G q:=fun ctx nid site o E G q h=>by
 unfold z6k at h
 split at h
 ·split at h<;>try (cases h;done)
  rename_i c ho
  exact z27 hT ho h
 ·exact z85 hS hzt hzt2 _ _ _ _ _ _ _ h
end Go.Proofs.YtdllbdlnmjngcaaGreat.T

namespace Go.Proofs.YtdllbdlnmjngcaaGreat.T
open Go Go.RowKit L
set_option linter.unusedVariables false
set_option linter.unusedSimpArgs false
def plT:Ty→Bool
 | .int _=>true
 | .bool=>true
 | .str=>true
 | .arr _ t=>plT t
 | .nil=>true
 | .cons a r=>plT a && plT r
 | .st r=>plT r
 | _=>false
theorem zom:∀(t:Ty) (x:t.D),plT t=true→∀ c∈encC t x,c = .u (uV c)
 | .int k,x,h,c,hc=>by simp only[encC,List.mem_singleton] at hc;subst hc;rfl
 | .bool,x,h,c,hc=>by simp only[encC,List.mem_singleton] at hc;subst hc;rfl
 | .str,x,h,c,hc=>by simp only[encC,List.mem_singleton] at hc;subst hc;rfl
 | .sl _,x,h,c,hc=>by simp[plT] at h
 | .ref _,x,h,c,hc=>by simp[plT] at h
 | .arr n t,x,h,c,hc=>by
  simp only[plT] at h
  simp only[encC] at hc
  obtain⟨y,_,hy⟩:=List.mem_flatMap.1 hc
  exact zom t y h c hy
 | .nil,x,h,c,hc=>by simp[encC] at hc
 | .cons a r,x,h,c,hc=>by
  simp only[plT,Bool.and_eq_true] at h
  simp only[encC,List.mem_append] at hc
  rcases hc with hc | hc
  ·exact zom a x.1 h.1 c hc
  ·exact zom r x.2 h.2 c hc
 | .st r,x,h,c,hc=>by
  simp only[plT] at h
  simp only[encC] at hc
  exact zom r x h c hc
 | .tup _,x,h,c,hc=>by simp[plT] at h
theorem zz4 (t:Ty) (x:t.D) (h:plT t=true):enc t x=ofV (oV t x):=by
 have hu:=zom t x h
 unfold enc mkV oV
 cases ha:Jq t with
 | true=>
  simp only[ofV,oVs,List.map_map]
  congr 1
  refine(List.ext_getElem (by simp) fun i h1 h2=>?_)
  simp only[List.getElem_map,Function.comp]
  exact hu _ (List.getElem_mem h1)
 | false=>
  simp only
  have hl:=jr t x
  rw[zaz ha] at hl
  match hc:encC t x,hl with
  | [c],_=>
   have:=hu c (by rw[hc];simp)
   simp only[List.headD_cons,oVs,hc,List.map_cons,List.map_nil]
   cases t<;>first
    | (simp only[encC,List.cons.injEq,and_true] at hc;subst hc;rfl)
    | (simp[plT] at h;done)
    | (simp[Jq] at ha;done)
theorem rp_ofV {Z:ZM} {H:PHeap} {V:Nat→Value} {w:World} {u v:Value} (h:Rp Z H V w (ofV u) v):v=u:=by
 cases u with
 | agg vs=>
  simp only[ofV] at h
  cases h with
  | agg _ us hl hc=>
   congr 1
   simp only[List.length_map,Array.length_toList] at hl
   refine Array.ext (by omega) fun i h1 h2=>?_
   have:=hc i (.u vs[i]) us[i] (by simp[h2]) (Array.getElem?_eq_getElem h1)
   generalize us[i]=y at this
   generalize vs[i]=z at this
   cases this;rfl
 | _=>simp only[ofV] at h;cases h;rfl
theorem zy9 {t:Ty} {x:t.D} {Z:ZM} {H:PHeap} {V:Nat→Value} {w:World} {v:Value} (h:plT t=true) (hv:Rp Z H V w (enc t x) v):v=oV t x:=by
 rw[zz4 t x h] at hv;exact rp_ofV hv
def Qx {α β:Type} (eqb:α→α→Bool):List (α×β×Unit)→α→Option β
 | [],_=>none
 | e :: r,k=>match eqb k e.1 with
  | true=>some e.2.1
  | false=>Qx eqb r k
def zau {α β:Type} (eqb:α→α→Bool):List (α×β×Unit)→α→β→List (α×β×Unit)
 | [],k,v=>[(k,v,())]
 | e :: r,k,v=>match eqb k e.1 with
  | true=>(k,v,()) :: r
  | false=>e :: zau eqb r k v
def gD {β:Type} (z:β):Option β→β
 | some x=>x
 | none=>z
def ent {α β:Type} (e:α×β×Unit):α×β:=(e.1,e.2.1)
theorem zph {α β:Type} {eqb:α→α→Bool} {k:α}:∀(l:List (α×β)) (i j:Nat),Qz eqb k l (i+j)=(Qz eqb k l i).map fun r=>(r.1+j,r.2)
 | [],i,j=>rfl
 | e :: es,i,j=>by
  unfold Qz
  cases eqb k e.1
  ·simp only[Bool.false_eq_true,if_false]
   rw[show i+j+1=i+1+j by omega];exact zph es (i+1) j
  ·simp
theorem znl {α β:Type} {eqb:α→α→Bool} {k:α}:∀(l:List (α×β×Unit)),Qx eqb l k=zs8 eqb (l.map ent) k
 | []=>rfl
 | e :: es=>by
  unfold zs8 Qx
  simp only[List.map_cons,Qz,ent]
  cases eqb k e.1
  ·simp only[Bool.false_eq_true,if_false]
   rw[zph _ 0 1,Option.map_map,znl es];rfl
  ·rfl
theorem zxs {α β:Type} {eqb:α→α→Bool} {k:α} {v:β}:∀(l:List (α×β×Unit)),(zau eqb l k v).map ent=jaj eqb (l.map ent) k v
 | []=>rfl
 | e :: es=>by
  have ih:=zxs (eqb:=eqb) (k:=k) (v:=v) es
  unfold jaj at ih ⊢
  unfold zau
  simp only[List.map_cons,Qz,ent]
  cases eqb k e.1
  ·simp only[Bool.false_eq_true,if_false,List.map_cons]
   rw[zph _ 0 1,ih]
   cases Qz eqb k (es.map ent) 0 with
   | none=>rfl
   | some r=>simp[ent]
  ·rfl
structure KY where
 kt:Ty
 eqb:kt.D→kt.D→Bool
def z8n (P:Program) (ky:TypeId→Option KY):Prop:=∀ k x,ky k=some x→plT x.kt=true∧zho P k (oV x.kt) x.eqb
def zr0 (P:Program) (t:TypeId):Option (TypeId×TypeId):=match P.underlying t with
 | some (.map k e)=>some (k,e)
 | _=>none
theorem zn1 {P:Program} {t:TypeId} {r:TypeId×TypeId} (h:zr0 P t=some r):P.underlying t=some (.map r.1 r.2):=by
 unfold zr0 at h
 split at h<;>cases h
 assumption
def zvB (P:Program) (e:TypeId) (d:Dyn):Bool:=match (P.info? e).bind (·.zero) with
 | some z=>plT d.t && zyB z d
 | none=>false
theorem z5r {P:Program} {e:TypeId} {d:Dyn} (h:zvB P e d=true):plT d.t=true∧∀ w,(zeroValue e).run P w = .ok (oV d.t d.x) w:=by
 unfold zvB at h
 split at h
 ·rename_i z hz
  simp only[Bool.and_eq_true] at h
  obtain⟨i,hi,hiz⟩:=Option.bind_eq_some_iff.1 hz
  refine⟨h.1,fun w=>?_⟩
  obtain⟨hr,_⟩:=z5i h.2
  have:z=oV d.t d.x:=zy9 (Z:=⟨fun _=>False,0⟩) (H:=PHeap.empty) (V:=V0) (w:=w) h.1 (hr _ _ _ _ _ (.u z))
  unfold zeroValue
  rw[Sem.run_bind,run_typeInfo w hi]
  simp only[Result.andThen_ok,hiz]
  rw[← this];rfl
 ·cases h
def z6h (G:EG) (kt vt:Ty) (x:TS):Option (Nat×Nat×List (kt.D×vt.D×Unit)):=match x with
 | .own id ver=>match Nat.beq (G id).ver ver with
  | true=>match (G id).b with
   | some (.obj k y)=>match k.eqB (.mp kt vt) with
    | true=>match Dyn.as ⟨k.ty,y⟩ (.sl (.st (.cons kt (.cons vt .nil)))) with
     | some l=>some (id,ver,l)
     | none=>none
    | false=>none
   | _=>none
  | false=>none
 | _=>none
theorem zu4 {G:EG} {kt vt:Ty} {x:TS} {r:Nat×Nat×List (kt.D×vt.D×Unit)} (h:z6h G kt vt x=some r):x = .own r.1 r.2.1∧G r.1 = ⟨r.2.1,some (.obj (.mp kt vt) r.2.2)⟩:=by
 unfold z6h at h
 split at h<;>try (cases h;done)
 rename_i id ver
 split at h<;>try (cases h;done)
 rename_i hv
 split at h<;>try (cases h;done)
 rename_i k y hb
 split at h<;>try (cases h;done)
 rename_i hk
 have:=RK.eqB_eq hk
 subst this
 split at h<;>cases h
 rename_i l hl
 have:=Dyn.as_eq hl
 injection this with e1 e2
 subst e2
 refine⟨rfl,?_⟩
 cases hG:G id with
 | mk v b=>
  rw[hG] at hv hb
  simp only at hv hb
  rw[qn hv,hb]
def sMp (P:Program) (ky:TypeId→Option KY) (zy:ZY) (o:Oper) (nid:Nat) (E:EF) (G:EG):Option SR:=match o.op with
 | .makeMap t none=>match zr0 P t with
  | none=>none
  | some ke=>match ky ke.1 with
   | none=>none
   | some x=>match zy ke.2 with
    | none=>none
    | some d=>match Jy o with
     | true=>some ⟨Unit,true,some (),fun _ => .own nid (nv G nid),fun _=>[(nid,⟨nv G nid,some (.obj (.mp x.kt d.t) [])⟩)],[],[nid]⟩
     | false=>none
 | .lookup t x y ok=>match zr0 P t with
  | none=>none
  | some ke=>match ky ke.1 with
   | none=>none
   | some q=>match zy ke.2 with
    | none=>none
    | some d=>match zvB P ke.2 d with
     | false=>none
     | true=>match z6h G q.kt d.t (evE E x) with
      | none=>none
      | some m=>match toT q.kt (evE E y) with
       | none=>none
       | some k=>match ok with
        | false=>some (.dat (Option d.t.D) (some (Qx q.eqb m.2.2 k)) (fun g => .v ⟨d.t,gD d.x g⟩) [m.1])
        | true=>some (.dat (Option d.t.D) (some (Qx q.eqb m.2.2 k)) (fun g => .tup [.v ⟨d.t,gD d.x g⟩, .v ⟨.bool,g.isSome⟩]) [m.1])
 | .mapUpdate t x y z=>match zr0 P t with
  | none=>none
  | some ke=>match ky ke.1 with
   | none=>none
   | some q=>match zy ke.2 with
    | none=>none
    | some d=>match zvB P ke.2 d with
     | false=>none
     | true=>match z6h G q.kt d.t (evE E x) with
      | none=>none
      | some m=>match toT q.kt (evE E y) with
       | none=>none
       | some k=>match toT d.t (evE E z) with
        | none=>none
        | some v=>some ⟨List (q.kt.D×d.t.D×Unit),false,some (zau q.eqb m.2.2 k v),fun _=>UND,fun l=>[(m.1,⟨m.2.1,some (.obj (.mp q.kt d.t) l)⟩)],[],[m.1]⟩
 | .call ⟨.builtin .len,⟨[x]⟩,⟨[t]⟩⟩=>match zr0 P t with
  | none=>none
  | some ke=>match ky ke.1 with
   | none=>none
   | some q=>match zy ke.2 with
    | none=>none
    | some d=>match z6h G q.kt d.t (evE E x) with
     | none=>none
     | some m=>some (.dat Int (some (m.2.2.length:Int)) (fun z => .v ⟨.int .i64,z⟩) [m.1])
 | _=>none
section
variable {P : Program} {o : Oper} {E : EF} {G : EG} {H : PHeap} {F : PFrame} {W : Env} {n : Nat}
theorem z6c {kt vt:Ty} {id ver:Nat} {l:List (kt.D×vt.D×Unit)} (hG:G id = ⟨ver,some (.obj (.mp kt vt) l)⟩) (hH:H (2*id)=j8 (G id)) {V:Nat→Value} {w:World} (hr:HRel P W H V w) {v:Value} (hv:Rp W.Z H V w (.ps (2*id) ver) v) :
  ∃ g arr clock,v = .map (some g)∧V (2*id) = .map (some g)∧W.w.heap.size≤g∧w.heap[g]? = some (.map arr clock)∧arr.toList.map (fun e=>(e.key,e.val))=(l.map ent).map fun e=>(oV kt e.1,oV vt e.2):=by
 have hb:H (2*id) = ⟨ver,some (z5b (l.map fun e=>(oV kt e.1,oV vt e.2.1)))⟩:=by rw[hH,hG];rfl
 obtain⟨g,o,vs,e,hg,hh,⟨arr,clock,rfl,he⟩,_⟩:=hr.map (2*id) false [] _ (by rw[hb];rfl)
 cases hv with
 | ps _ _ _ hvv hq=>
  have:=hq (by rw[hb];rfl) (by rw[hb])
  exact⟨g,arr,clock,by rw[this,e];rfl,e,hg,hh,by rw[he,List.map_map];rfl⟩
theorem zup {t:Ty} {s:TS} {x:t.D} (h:toT t s=some x) (hp:plT t=true) {Z:ZM} {V:Nat→Value} {w:World} {v:Value} (hv:Rp Z H V w s.den v):v=oV t x:=zy9 hp ((Za t s x h).2 _ _ _ _ _ hv)
theorem sMp_ok {ky:TypeId→Option KY} (hky:z8n P ky) {zy:ZY} {nid:Nat} {q:SR} (h:sMp P ky zy o nid E G=some q):SOk P o E G q:=by
 unfold sMp at h
 split at h<;>try (cases h;done)
 ·-- made
  rename_i t ho
  split at h<;>try (cases h;done)
  split at h<;>try (cases h;done)
  split at h<;>try (cases h;done)
  split at h<;>cases h
  rename_i ke hke x hx d hd hds
  obtain⟨dd,hdd⟩:=zm hds
  refine⟨fun _=>rfl,fun _ _ W n F H hfl hdo hF hH V a w hr=>?_⟩
  have hex:(execOp a.eval o).run P w = .ok (.value (.map (some w.heap.size))) (w.alloc (.map #[] 0)):=by
   simp only[execOp,ho];rfl
  have hHn:=hH nid (.inr (by simp))
  have hver:(H (2*nid)).ver+1=nv G nid:=by rw[hHn];rfl
  refine vk hex ⟨.ps (2*nid) (nv G nid),H.set (2*nid) ⟨(H (2*nid)).ver+1,some (z5b [])⟩,vd V (2*nid) (.map (some w.heap.size)),⟨by simp only[TS.den],?_⟩,?_⟩
  ·rw[hver];rfl
  ·have hb:Below w.heap.size w (w.alloc (.map #[] 0)):=(Below.refl _ _).alloc (Nat.le_refl _) _
   refine hr.turn (Turn.new hr.heap hb rfl fun g hg=>by cases hg;exact Nat.le_refl _) (fun bd hbd=>?_) o.dst (fun t ht=>by exact hdo t ht) ?_
   ·cases hbd
    exact⟨w.heap.size,_,[],rfl,hr.heap.below.size,heap_alloc_new w _,⟨#[],0,rfl,rfl⟩,rfl,fun i p v h=>by simp at h⟩
   ·refine .ps _ _ _ ?_ fun _ _=>?_
    ·simp[PHeap.set,hver]
    ·simp[vd]
 ·-- looked up
  rename_i t x y ok ho
  split at h<;>try (cases h;done)
  rename_i ke hke
  split at h<;>try (cases h;done)
  rename_i kq hq
  split at h<;>try (cases h;done)
  rename_i d hd
  split at h<;>try (cases h;done)
  rename_i hz
  split at h<;>try (cases h;done)
  rename_i m hm
  split at h<;>try (cases h;done)
  rename_i k hk
  obtain⟨hpk,hK⟩:=hky _ _ hq
  obtain⟨hpv,hz⟩:=z5r hz
  have ht:=zn1 hke
  obtain⟨e1,e2⟩:=zu4 hm
  have hx':x∈o.op.operands:=by rw[ho];simp[Op.operands]
  have hy':y∈o.op.operands:=by rw[ho];simp[Op.operands]
  have main:∀ {W F H},Agr o E G [m.1] F H→∀(V:Nat→Value) (a:Act) (w:World),HRel P W H V w→(∀ x∈o.op.operands,Rp W.Z H V w (evP F x) (a.eval x))→(execOp a.eval o).run P w = .ok (.value (if ok then .tuple #[oV d.t ((zs8 kq.eqb (m.2.2.map ent) k).getD d.x), .bool (zs8 kq.eqb (m.2.2.map ent) k).isSome] else oV d.t ((zs8 kq.eqb (m.2.2.map ent) k).getD d.x))) w:=fun {W F H} hag V a w hw hh=>by
   have hxv:=hh x hx'
   have hyv:=hh y hy'
   rw[hag.ev hx',e1] at hxv
   rw[hag.ev hy'] at hyv
   simp only[TS.den] at hxv
   obtain⟨g,arr,clock,hv,hV,hg,hb,he⟩:=z6c e2 (hag.h m.1 (by simp)) hw hxv
   have hkv:=zup hk hpk hyv
   have h1:=zts hK ht hz k hb he ok
   simp only[execOp,ho,hv,hkv,Sem.run_bind,h1,Result.andThen_ok]
   rfl
  have hgd:∀(g:Option d.t.D),gD d.x g=g.getD d.x:=fun g=>by cases g<;>rfl
  cases ok with
  | false=>
   cases h
   refine SOk.dat fun g hg W F H hag=>PQ.of_run fun V a w hw hh=>⟨_,main hag V a w hw hh,?_⟩
   cases hg
   simp only[TS.den,Bool.false_eq_true,if_false]
   rw[znl,hgd,zz4 _ _ hpv];exact Rp.ofV _ _ _ _ _
  | true=>
   cases h
   refine SOk.dat fun g hg W F H hag=>PQ.of_run fun V a w hw hh=>⟨_,main hag V a w hw hh,?_⟩
   cases hg
   simp only[TS.den,vm,if_true]
   rw[znl,hgd]
   refine .tup _ _ rfl fun i p v h1 h2=>?_
   match i,h1,h2 with
   | 0,h1,h2=>cases h1;cases h2;rw[zz4 _ _ hpv];exact Rp.ofV _ _ _ _ _
   | 1,h1,h2=>cases h1;cases h2;exact .u _
 ·-- written
  rename_i t x y z ho
  split at h<;>try (cases h;done)
  rename_i ke hke
  split at h<;>try (cases h;done)
  rename_i kq hq
  split at h<;>try (cases h;done)
  rename_i d hd
  split at h<;>try (cases h;done)
  rename_i hz
  split at h<;>try (cases h;done)
  rename_i m hm
  split at h<;>try (cases h;done)
  rename_i k hk
  split at h<;>cases h
  rename_i v hv
  obtain⟨hpk,hK⟩:=hky _ _ hq
  obtain⟨hpv,hz⟩:=z5r hz
  have ht:=zn1 hke
  obtain⟨e1,e2⟩:=zu4 hm
  have hx':x∈o.op.operands:=by rw[ho];simp[Op.operands]
  have hy':y∈o.op.operands:=by rw[ho];simp[Op.operands]
  have hz':z∈o.op.operands:=by rw[ho];simp[Op.operands]
  refine⟨fun _=>rfl,fun l' hl W n F H hfl hdo hF hH V a w hr=>?_⟩
  cases hl
  have hag:Agr o E G [m.1] F H:=⟨hF,fun id hid=>hH id (.inr (by simpa using hid))⟩
  have ev:∀(x:Operand),Rp W.Z H V w (evP F x) (a.eval x):=fun x=>Rp.eval (P:=P) x fun t _=>hr.slot t
  have hxv:=ev x
  have hyv:=ev y
  have hzv:=ev z
  rw[hag.ev hx',e1] at hxv
  rw[hag.ev hy'] at hyv
  rw[hag.ev hz'] at hzv
  simp only[TS.den] at hxv
  have hHm:=hag.h m.1 (by simp)
  obtain⟨gb,arr,clock,hvx,hV,hgb,hb,he⟩:=z6c e2 hHm hr.heap hxv
  have hkv:=zup hk hpk hyv
  have hvv:=zup hv hpv hzv
  obtain⟨arr',clock',hrun,he'⟩:=zkx (vv:=oV d.t) hK ht k v hb he
  have hlt:=(Array.getElem?_eq_some_iff.1 hb).1
  have hother:∀ b,b≠gb→(w.heap.setIfInBounds gb (.map arr' clock'))[b]? = w.heap[b]?:=fun b hne=>by simp[Ne.symm hne]
  have hHb:H (2*m.1) = ⟨m.2.1,some (z5b (m.2.2.map fun e=>(oV kq.kt e.1,oV d.t e.2.1)))⟩:=by rw[hHm,e2];rfl
  have hl:(H (2*m.1)).body.isSome=true:=by rw[hHb];rfl
  have hturn:Turn W H V w (2*m.1) ⟨m.2.1,some (z5b ((zau kq.eqb m.2.2 k v).map fun e=>(oV kq.kt e.1,oV d.t e.2.1)))⟩ (V (2*m.1)) { w with heap:=w.heap.setIfInBounds gb (.map arr' clock') }:=
   ⟨hr.heap.below.trans ⟨rfl,rfl,rfl,by simp,fun b hb=>hother b (by omega)⟩,by simp,fun b hb hn=>hother b fun e=>hn ⟨hl,by rw[e,hV];rfl⟩,fun g' hg' => .inr ⟨hl,hg'⟩, .inr ⟨by rw[hHb],rfl,hl⟩⟩
  have hex:(execOp a.eval o).run P w = .ok .skip { w with heap:=w.heap.setIfInBounds gb (.map arr' clock') }:=by
   simp only[execOp,ho,hvx,hkv,hvv,Sem.run_bind,hrun,Result.andThen_ok];rfl
  unfold Oper.wp
  rw[hex]
  refine⟨.u undef,_,vd V (2*m.1) (V (2*m.1)),⟨und_den.symm,rfl⟩,hr.turn hturn (fun bd hbd=>?_) o.dst hdo (.u _)⟩
  cases hbd
  refine⟨gb, .map arr' clock',[],hV,hgb,by simp[hlt],⟨arr',clock',rfl,?_⟩,rfl,fun i p v h=>by simp at h⟩
  rw[he',← zxs,List.map_map];rfl
 ·-- counted
  rename_i x t ho
  split at h<;>try (cases h;done)
  rename_i ke hke
  split at h<;>try (cases h;done)
  rename_i kq hq
  split at h<;>try (cases h;done)
  rename_i d hd
  split at h<;>cases h
  rename_i m hm
  have ht:=zn1 hke
  obtain⟨e1,e2⟩:=zu4 hm
  have hx':x∈o.op.operands:=by rw[ho];simp[Op.operands,Call.operands]
  refine SOk.dat fun g hg W F H hag=>PQ.of_run fun V a w hw hh=>?_
  cases hg
  have hxv:=hh x hx'
  rw[hag.ev hx',e1] at hxv
  simp only[TS.den] at hxv
  obtain⟨gb,arr,clock,hv,hV,hgb,hb,he⟩:=z6c e2 (hag.h m.1 (by simp)) hw hxv
  refine⟨.int .i64 m.2.2.length,?_,by simp only[TS.den];exact .u _⟩
  have hlen:arr.size=m.2.2.length:=by have:=congrArg List.length he;simpa using this
  have:(Builtin.len_ #[t] o.type #[.map (some gb)]).run P w = .ok (goInt m.2.2.length) w:=by
   simp[Builtin.len_,run_underlying ht,MapKept.run_getObj_map hb,hlen]
  simp only[execOp,ho,resolve,invoke,builtin,Sem.run_bind,Sem.run_pure,Result.andThen_ok,List.map_toArray,List.map_cons,List.map_nil,hv,this]
  rfl
end
end Go.Proofs.YtdllbdlnmjngcaaGreat.T

namespace Go.Proofs.YtdllbdlnmjngcaaGreat.T
open Go Go.RowKit L
set_option linter.unusedVariables false
set_option linter.unusedSimpArgs false
noncomputable def z8w (ky:TypeId→Option KY) (prs:Nat→Prm) (fz:Nat→Nat→List (Nat×Ty)) (fr:Nat→Nat→Bool) (T:FuncId→Option FF):Sy1:=fun ctx nid site o E G=>match sMp Tryz.prog ky (prs ctx).zy o nid E G with
 | some q=>some q
 | none=>z6k prs fz fr T ctx nid site o E G
theorem z9i {ky:TypeId→Option KY} (hky:z8n Tryz.prog ky) {prs:Nat→Prm} {fz:Nat→Nat→List (Nat×Ty)} {fr:Nat→Nat→Bool} {T:FuncId→Option FF} (hT:Zj Tryz.prog T) (hS:∀ c,Jl Tryz.prog (prs c).S) (hzt:∀ c,zdl Tryz.prog (prs c).zt) (hzt2:∀ c,zdl Tryz.prog (prs c).zt2):∀ ctx nid site o E G q,z8w ky prs fz fr T ctx nid site o E G=some q→SOk Tryz.prog o E G q:=fun ctx nid site o E G q h=>by
 unfold z8w at h
 split at h
 ·rename_i q' hq;cases h;exact sMp_ok hky hq
 ·exact z6q hT hS hzt hzt2 _ _ _ _ _ _ _ h
theorem baEq (a b:List UInt8):((⟨⟨a⟩⟩:ByteArray) == ⟨⟨b⟩⟩)=(a == b):=by
 show ByteArray.beq _ _=_
 unfold ByteArray.beq
 simp
theorem klawT {P:Program} {k:TypeId} (h:P.underlying k=some .string):zho P k (oV .str) (fun a b=>a == b) where
 chk:=fun b x w=>by
  unfold Instr.checkKey
  simp only[Sem.run_bind,run_underlying h,Result.andThen_ok];rfl
 und:=⟨_,h,fun a b => .inr (by
  show some ((⟨⟨a⟩⟩:ByteArray) == ⟨⟨b⟩⟩)=some (a == b)
  rw[baEq])⟩
 eq:=fun a b w=>Zk h (by
  show some ((⟨⟨a⟩⟩:ByteArray) == ⟨⟨b⟩⟩)=some (a == b)
  rw[baEq]) w
 beq:=fun a b h=>by simpa using h
 bits:=fun a=>by
  show((⟨⟨a⟩⟩:ByteArray) == ⟨⟨a⟩⟩)=true
  rw[baEq];simp
end Go.Proofs.YtdllbdlnmjngcaaGreat.T

namespace Go.Proofs.YtdllbdlnmjngcaaGreat.T
open Go Go.RowKit L
set_option linter.unusedVariables false
set_option linter.unusedSimpArgs false
def z9r {α:Type} (l:List α) (z:Int):Option Nat:=match decide (0≤z) && decide (z≤l.length) with
 | true=>some z.toNat
 | false=>none
noncomputable def sSlF (es:Option Nat) (G:EG) (x y:TS):Option SR:=match x with
 | .own id ver=>match Nat.beq (G id).ver ver with
  | true=>match (G id).b with
   | some (.row _ t l)=>match oeq es (some (wid t)) with
    | true=>qp (zbc y) fun z=>some (.dat Nat (z9r l z) (fun j => .q id (wid t) j ver) [id])
    | false=>none
   | _=>none
  | false=>none
 | _=>none
def z6p {α:Type} (a b:List α):Option (Int×List α):=some (((min a.length b.length:Nat):Int),b.take a.length++a.drop b.length)
noncomputable def sCpy (es:Option Nat) (G:EG) (x y:TS):Option SR:=match x with
 | .own id ver=>match Nat.beq (G id).ver ver with
  | true=>match (G id).b with
   | some (.row tid t l)=>match oeq es (some 1) && (Nat.beq (wid t) 1 && zav t) with
    | true=>match z9g t G y with
     | some r=>some ⟨Int×List t.D,false,z6p l r.1,fun y => .v ⟨.int .i64,y.1⟩,fun y=>[(id,⟨ver,some (.row tid t y.2)⟩)],r.2,[id]⟩
     | none=>none
    | false=>none
   | _=>none
  | false=>none
 | _=>none
def b2s (l:List Int):Option (List UInt8):=some (l.map fun n=>UInt8.ofNat n.toNat)
def jah:TS→List Nat
 | .own id _=>[id]
 | _=>[]
noncomputable def sB2S (G:EG) (x:TS):Option SR:=match yv (Yx (jah x) G) (.sl (.int .u8)) x with
 | some l=>some (.dat (List UInt8) (b2s l) (fun y => .v ⟨.str,y⟩) (jah x))
 | none=>none
section
variable {P : Program} {W : Env} {n : Nat} {o : Oper} {E : EF} {F : PFrame} {H : PHeap} {G : EG}
theorem jbf {t:TypeId} {x y:Operand} {q:SR} (ho:o.op = .slice t x (some y) none none) (h:sSlF (esz P t) G (evE E x) (evE E y)=some q):SOk P o E G q:=by
 have hx':x∈o.op.operands:=by rw[ho];simp[Op.operands]
 have hy':y∈o.op.operands:=by rw[ho];simp[Op.operands]
 unfold sSlF at h
 split at h<;>try (cases h;done)
 rename_i id ver hx
 split at h<;>try (cases h;done)
 rename_i hv
 have hv:=qn hv
 split at h<;>try (cases h;done)
 rename_i tid ty l hb
 split at h<;>try (cases h;done)
 rename_i hes
 have hes:=zf4 hes
 obtain⟨z,hz,h⟩:=jm h
 cases h
 obtain⟨kd,hkd⟩:=Vj hz
 refine SOk.dat fun j hj W F H hag=>?_
 unfold z9r at hj
 split at hj<;>cases hj
 rename_i hb2
 simp only[Bool.and_eq_true,decide_eq_true_eq] at hb2
 simp only[TS.den]
 refine PQ.sliceFrom (id:=2*id) (kd:=kd) ho hes (by rw[hag.ev hx',hx];simp only[TS.den]) (e:=tid) (m:=l.length) (cs:=l.flatMap (encC ty)) ?_ (by rw[hag.ev hy',hkd]) hb2.1 (by omega)
 obtain⟨h1,h2⟩:=qw (vc (hag.h id (by simp)) hb rfl hv)
 cases hH:H (2*id) with
 | mk v b=>
  rw[hH] at h1 h2
  simp only at h1 h2
  rw[h1,h2]
theorem zp7 (w:World) (dT sT ty elem:TypeId) (ad sa:Option Addr) (dLen dCap z0q sCap:Nat) (hu:P.underlying dT=some (.slice elem)) (hs:((P.info? elem).map (·.size)).isSome=true) (h0:Nat.min z0q dLen=0) :
  (Builtin.copy_ #[dT,sT] ty #[.slice ad dLen dCap, .slice sa z0q sCap]).run P w = .ok (goInt 0) w:=by
 cases hq:P.info? elem with
 | none=>simp[hq] at hs
 | some i=>
  cases sa<;>cases ad<;>simp[Builtin.copy_,run_underlying hu,Builtin.lenOf,Builtin.firstCells,sizeOf,typeInfo,hq,storeCells,h0,loadCells,loadCellsFrom]
theorem PE.copyW {t t' e:TypeId} {x y:Operand} {id ver m m2:Nat} {cs cs2:List PV} {K:PV→PHeap→Prop} (ho:o.op = .call { callee := .builtin .copy,args:=#[x,y],argTypes:=#[t,t'] }) (hdo:jn n o) (hu:P.underlying t=some (.slice e)) (hs:(P.info? e).map (·.size)=some 1)
  {te:TypeId} (hx:evP F x = .ps id ver) (hl:qj H id ver=some (te,1,m,cs)) (hy:zd3 H 1 (evP F y)=some (m2,cs2)) (hc2:cs2.length=m2) (hcs:cs.length=m) (hleaf:∀ p∈cs2,qc H p=true)
  (hk:K (.u (.int .i64 (min m m2:Nat))) (H.set id ⟨ver,some (.row te 1 m (cs2.take m++cs.drop m2))⟩)):PE P W n o F H K:=by
 obtain⟨hb,hve⟩:=qw hl
 by_cases h0:Nat.min m2 m=0
 ·have hq:PQ P W o F H (.u (.int .i64 (min m m2:Nat))):=PQ.of_run fun V a w hr hh=>by
   obtain⟨vals,hown,hR,h1⟩:=hr.row id _ _ _ _ hb
   have hxv:=hh x (by rw[ho];simp[Op.operands,Call.operands])
   have hyv:=hh y (by rw[ho];simp[Op.operands,Call.operands])
   rw[hx] at hxv
   obtain⟨ad,c,hyv,_⟩:=zd1 hr hyv hy
   have exv:a.eval x=V id:=by
    generalize a.eval x=q at hxv
    cases hxv with
    | ps _ _ _ hvv hh=>exact hh (by rw[hb];rfl) hve
   have hVs:∃ ad cc,V id = .slice ad m cc:=by
    rcases hown.2 with ⟨e1,e0⟩ | ⟨g,cap,cur,e1,_⟩
    ·exact⟨_,_,by rw[e1,e0]⟩
    ·exact⟨_,_,e1⟩
   obtain⟨ad2,cc,hV⟩:=hVs
   refine⟨goInt 0,?_,?_⟩
   ·unfold execOp
    simp only[ho,resolve,invoke,builtin,Sem.run_bind,Sem.run_pure,Result.andThen_ok,List.map_toArray,List.map_cons,List.map_nil,exv,hV,hyv,zp7 w t t' o.type e ad2 ad m cc m2 c hu (by rw[hs];rfl) h0]
   ·have:min m m2=0:=by rw[Nat.min_comm];exact h0
    rw[this];exact .u _
  refine PE.quiet hdo hq ?_
  have e:H.set id ⟨ver,some (.row te 1 m (cs2.take m++cs.drop m2))⟩=H:=by
   funext j
   unfold PHeap.set
   split
   ·rename_i hj
    subst hj
    have e2:cs2.take m++cs.drop m2=cs:=by
     rcases Nat.eq_zero_or_pos m2 with h | h
     ·subst h
      rw[List.eq_nil_of_length_eq_zero hc2];simp
     ·have hm:m=0:=by
       have:min m2 m=0:=h0
       omega
      subst hm
      rw[List.eq_nil_of_length_eq_zero hcs];simp
    rw[e2]
    cases hH:H j with
    | mk v b=>rw[hH] at hb hve;simp only at hb hve;rw[hb,hve]
   ·rfl
  rw[e] at hk
  exact hk
 ·have hm0:m≠0:=fun e=>h0 (by rw[e];exact Nat.min_zero _)
  have hm20:m2≠0:=fun e=>h0 (by rw[e];exact Nat.zero_min _)
  intro V a w hr
  obtain⟨vals,hown,hR,h1⟩:=hr.heap.row id _ _ _ _ hb
  have hxv:a.eval x=V id:=by
   have:=Rp.eval (P:=P) (F:=F) (a:=a) (Z:=W.Z) (H:=H) (V:=V) (w:=w) x fun t _=>hr.slot t
   rw[hx] at this
   generalize a.eval x=q at this
   cases this with
   | ps _ _ _ hvv hh=>exact hh (by rw[hb];rfl) hve
  obtain⟨ad,c,hyv,hsrc⟩:=zd1 hr.heap (Rp.eval (P:=P) (F:=F) (a:=a) y fun t _=>hr.slot t) hy
  rcases hsrc with ⟨h0,_⟩ | ⟨ba,news,rfl,hnl,hRn,hcell⟩
  ·exact absurd h0 hm20
  rcases hown.2 with ⟨e1,h0⟩ | ⟨g,cap,cur,e1,hbg,hgh,hcap,hcm,hcsz,htake⟩
  ·exact absurd h0 hm0
  have hnl':news.length=m2:=by omega
  have hvl:vals.length=m:=by have:=hown.1;omega
  have hone:∀ u∈news,u.oneCell'=true:=fun u hu=>by
   obtain⟨j,hj,rfl⟩:=List.getElem_of_mem hu
   have hj2:j<cs2.length:=by rw[hRn.1];exact hj
   exact(hRn.2 j _ _ (List.getElem?_eq_getElem hj2) (List.getElem?_eq_getElem hj)).leaf hr.heap (hleaf _ (List.getElem_mem _))
  have hrun:=run_copy_row (P:=P) w t t' o.type e g 0 m cap ba m2 c cur te (news.take m) hu hs hgh (by rw[List.length_take,hnl',Nat.min_comm]) (fun j v hj=>hcell j v (by
   rw[List.getElem?_take] at hj
   split at hj
   ·exact hj
   ·cases hj)) (by rw[List.length_take];omega) (fun v hv=>hone v (List.mem_of_mem_take hv))
  have hex:(execOp a.eval o).run P w = .ok (.value (goInt (news.take m).length)) (w.setRow g (cur.toList.take 0++news.take m++cur.toList.drop (0+(news.take m).length)).toArray):=by
   unfold execOp
   simp only[ho,resolve,invoke,builtin,Sem.run_bind,Sem.run_pure,Result.andThen_ok,List.map_toArray,List.map_cons,List.map_nil,hxv,hyv,e1,hrun]
  have hcn:(news.take m).length=min m m2:=by rw[List.length_take,hnl']
  have hgi:goInt (news.take m).length = .int .i64 (min m m2:Nat):=by rw[hcn];rfl
  have hown':(w.setRow g (cur.toList.take 0++news.take m++cur.toList.drop (0+(news.take m).length)).toArray).ownsRow W.w.heap.size te 1 (V id) m (news.take m++vals.drop m2):=by
   refine⟨by simp[hvl,hnl'];omega, .inr ⟨g,cap,_,e1,hbg,setRow_heap w g cur _ te _ hgh,hcap,hcm,?_,?_⟩⟩
   ·simp[hnl'];omega
   ·have hdrop:vals.drop m2=(cur.toList.take m).drop m2:=by rw[← htake,Nat.mul_one]
    rw[hdrop,Nat.mul_one]
    simp only[List.take_zero,List.nil_append,Nat.zero_add,hcn]
    apply List.ext_getElem?
    intro j
    rw[List.getElem?_take]
    by_cases hj:j<m
    ·rw[if_pos hj]
     by_cases hj2:j<m2
     ·rw[List.getElem?_append_left (by rw[hcn];omega),List.getElem?_append_left (by rw[hcn];omega)]
     ·rw[List.getElem?_append_right (by rw[hcn];omega),List.getElem?_append_right (by rw[hcn];omega),hcn,List.getElem?_drop,List.getElem?_drop,List.getElem?_take]
      rw[if_pos (by omega)]
      congr 1;omega
    ·rw[if_neg hj,List.getElem?_eq_none]
     simp[hcn];omega
  have hgr:w.grownBy (w.setRow g (cur.toList.take 0++news.take m++cur.toList.drop (0+(news.take m).length)).toArray) (some g):=⟨rfl,rfl,rfl,by simp,fun k _ hk=>setRow_other w g k _ (fun e=>hk (by rw[e]))⟩
  have hblk:jy (V id)=some g:=by rw[e1];rfl
  have hturn:Turn W H V w id ⟨ver,some (.row te 1 m (cs2.take m++cs.drop m2))⟩ (V id) (w.setRow g (cur.toList.take 0++news.take m++cur.toList.drop (0+(news.take m).length)).toArray):=by
   refine⟨hr.heap.below.grown hgr hr.heap.below.size fun kk hk=>by cases hk;exact hbg,hgr.size,fun bb hlt hn=>hgr.block bb hlt fun e'=>hn ⟨by rw[hb];rfl,by rw[hblk];exact e'.symm⟩,fun g' hg' => .inr ⟨by rw[hb];rfl,hg'⟩, .inr ⟨hve.symm,rfl,by rw[hb];rfl⟩⟩
  refine vk hex ⟨_,_,vd V id (V id),hk,?_⟩
  rw[hgi]
  refine hr.turn hturn (fun bd hbd=>?_) o.dst hdo (.u _)
  cases hbd
  refine⟨_,hown',⟨?_,fun j p u h3 h4=>?_⟩,fun u hu=>?_⟩
  ·simp[hvl,hnl',hc2,hcs]
  ·by_cases hj:j<min m m2
   ·rw[List.getElem?_append_left (by simp;omega),List.getElem?_take,if_pos (by omega)] at h3
    rw[List.getElem?_append_left (by rw[hcn];exact hj),List.getElem?_take,if_pos (by omega)] at h4
    exact hturn.rp (hRn.2 j p u h3 h4)
   ·rw[List.getElem?_append_right (by simp;omega),List.getElem?_drop] at h3
    rw[List.getElem?_append_right (by rw[hcn];omega),List.getElem?_drop,hcn] at h4
    have e3:m2+(j-(cs2.take m).length)=m2+(j-min m m2):=by rw[List.length_take,hc2]
    rw[e3] at h3
    exact hturn.rp (hR.2 _ p u h3 h4)
  ·rcases List.mem_append.1 hu with h | h
   ·exact hone u (List.mem_of_mem_take h)
   ·exact h1 u (List.mem_of_mem_drop h)
theorem z9p {t t':TypeId} {x y:Operand} {q:SR} (ho:o.op = .call { callee := .builtin .copy,args:=#[x,y],argTypes:=#[t,t'] }) (h:sCpy (esz P t) G (evE E x) (evE E y)=some q):SOk P o E G q:=by
 have hx':x∈o.op.operands:=by rw[ho];simp[Op.operands,Call.operands]
 have hy':y∈o.op.operands:=by rw[ho];simp[Op.operands,Call.operands]
 unfold sCpy at h
 split at h<;>try (cases h;done)
 rename_i id ver hx
 split at h<;>try (cases h;done)
 rename_i hv
 have hv:=qn hv
 split at h<;>try (cases h;done)
 rename_i tid ty l hb
 split at h<;>try (cases h;done)
 rename_i hc
 simp only[Bool.and_eq_true] at hc
 have hes:=zf4 hc.1
 have hw:=qn hc.2.1
 split at h<;>cases h
 rename_i r hr
 refine⟨fun _=>rfl,fun z hz W n F H hfl hd hF hH=>?_⟩
 cases hz
 have hag:Agr o E G r.2 F H:=⟨hF,fun i hi=>hH i (.inl hi)⟩
 have hid:=hH id (.inr (by simp))
 obtain⟨e,ti,hu,hti,hts⟩:=Y4 hes
 have hl1:∀ l:List ty.D,(l.flatMap (encC ty)).length=l.length:=fun l=>by rw[zh _ (wid ty) _ fun x _=>jr ty x,hw,Nat.mul_one]
 have hsrc:=zt9 (H:=H) hr hw fun i hi=>hag.h i hi
 refine PE.copyW (id:=2*id) (ver:=ver) (te:=tid) (m:=l.length) (m2:=r.1.length) (cs:=l.flatMap (encC ty)) (cs2:=r.1.flatMap (encC ty)) ho hd hu (by rw[hti,Option.map_some,hts]) (by rw[hag.ev hx',hx];simp only[TS.den]) (by rw[vc hid hb rfl hv,hw]) (by rw[hag.ev hy'];exact hsrc) (hl1 _) (hl1 _) (zit hc.2.2 _) ⟨by simp only[TS.den];rfl,?_⟩
 have e1:(r.1.flatMap (encC ty)).take l.length++(l.flatMap (encC ty)).drop r.1.length=(r.1.take l.length++l.drop r.1.length).flatMap (encC ty):=by
  have ht:∀(a:List ty.D) (j:Nat),(a.flatMap (encC ty)).take j=(a.take j).flatMap (encC ty)∧(a.flatMap (encC ty)).drop j=(a.drop j).flatMap (encC ty):=fun a j=>by
   have e3:a.flatMap (encC ty)=(a.take j).flatMap (encC ty)++(a.drop j).flatMap (encC ty):=by rw[← List.flatMap_append,List.take_append_drop]
   by_cases hj:j≤a.length
   ·have e4:((a.take j).flatMap (encC ty)).length=j:=by rw[hl1,List.length_take];omega
    rw[e3,List.take_left' e4,List.drop_left' e4]
    exact⟨rfl,rfl⟩
   ·rw[List.take_of_length_le (by rw[hl1];omega),List.drop_of_length_le (by rw[hl1];omega),List.take_of_length_le (by omega),List.drop_of_length_le (by omega)]
    exact⟨rfl,rfl⟩
  rw[(ht _ _).1,(ht _ _).2,List.flatMap_append]
 have e2:(r.1.take l.length++l.drop r.1.length).length=l.length:=by simp;omega
 simp only[Zx,List.map_cons,List.map_nil,yr,j8,Option.map_some,BD.den,e1,e2,hw]
theorem jad {Z:ZM} {V:Nat→Value} {w:World} {t t' e:TypeId} {l:List Int} {v:Value} (hs:P.underlying t=some (.slice e)) (he:P.underlying e=some (.int .u8)) (hd:P.underlying t'=some .string) (h:Rp Z H V w (.sl 1 (l.map fun z=>PV.u (.int .u8 z))) v):(convert t t' v).run P w = .ok (.string (strOfNums l)) w:=by
 generalize hxs:(l.map fun z=>PV.u (.int .u8 z))=us at h
 cases h with
 | nil k a c=>
  have:l=[]:=List.map_eq_nil_iff.1 hxs
  subst this
  cases a<;>simp[convert,run_underlying hs,run_underlying hd,run_underlying he,Conv.bytesToString,loadCells,loadCellsFrom,strOfNums]<;>rfl
 | sl k us b o c gg hu hlen hz hb h1 h2=>
  subst hxs
  have hfl:(l.map fun z=>PV.u (.int .u8 z)).flatMap PV.cells=l.map fun z=>PV.u (.int .u8 z):=Y2 (fun v=>rfl) l
  have hcell:∀ i,i<l.length→w.cell? ⟨b,o+i,none⟩=some (.int .u8 (l.getD i 0)):=fun i hi=>by
   have hp:((l.map fun z=>PV.u (.int .u8 z)).flatMap PV.cells)[i]? = some (PV.u (.int .u8 l[i])):=by rw[hfl];simp[hi]
   have h3:=h2 i _ hp
   rw[h1 i _ hp]
   generalize gg i=q at h3
   cases h3
   simp[List.getD,hi]
  have:=run_convert_bytes_arg (P:=P) w t e hs he b o l.length c l rfl hcell t' hd
  rw[List.length_map];exact this
theorem z97 {t t' e:TypeId} {x:Operand} {q:SR} (ho:o.op = .convert t t' x) (hs:P.underlying t=some (.slice e)) (he:P.underlying e=some (.int .u8)) (hd:P.underlying t'=some .string) (h:sB2S G (evE E x)=some q):SOk P o E G q:=by
 have hx':x∈o.op.operands:=by rw[ho];simp[Op.operands]
 unfold sB2S at h
 split at h<;>cases h
 rename_i l hl
 refine SOk.dat fun z hz W F H hag=>PQ.of_run fun V a w hr hh=>?_
 cases hz
 have hxv:=hh x hx'
 rw[hag.ev hx'] at hxv
 have hv:=(Jo (G:=Yx (jah (evE E x)) G) (H:=H) (fun id hs=>by
  unfold Yx at *
  cases hm:zdm (jah (evE E x)) id with
  | true=>exact hag.h id (Jh.1 hm)
  | false=>rw[hm] at hs;simp at hs) _ _ _ hl).1 P W V w hr _ hxv
 have:=jad hs he hd (l:=l) hv
 refine⟨.string (strOfNums l),?_,?_⟩
 ·simp only[execOp,ho,Sem.run_bind,this,Result.andThen_ok]
  rfl
 ·simp only[TS.den];exact .u _
end
theorem cloneZ {α:Type} (o:Option α):ja o (fun x=>some x)=o:=by cases o<;>rfl
theorem z1h {P:Program} {f:FuncId} {t:Ty} {e:TypeId} {b:Nat} {g:List t.D→Option (List t.D)} (hC:zgx P f [.sl t] e t g) (hg:∀ x r,g (x :: r)=apO b [] (x :: r))
  (hn:∀ c w,Calls P f #[.slice none 0 c] w fun ex w'=>ex = .returned (.slice none 0 0)∧w'=w)
  (hz:∀ a c w,Calls P f #[.slice (some a) 0 c] w fun ex w'=>∃ v',ex = .returned v'∧w'.ownsRow w.heap.size e (wid t) v' 0 []∧Below w.heap.size w w'):zgx P f [.sl t] e t (fun x=>apO b [] x):=by
 refine⟨hC.1,fun x r h=>?_⟩
 cases x with
 | cons y l=>exact hC.2 (y :: l) r ((hg y l).trans h)
 | nil=>
  obtain⟨_,_,rfl⟩:=zo5 h
  intro Z w vs hZ hm hR
  obtain⟨v,rfl,hv⟩:=rpl1 (p := .sl (wid t) []) hR
  have fin:∀ {v':Value} {w':World},w'.ownsRow Z.m e (wid t) v' 0 []→(∀ g,jy v'=some g→¬ PZ Z PHeap.empty V0 g)→∃ p,p=PV.fr e (wid t) (([]:List t.D).map (enc t))∧NoP p∧Rp Z PHeap.empty V0 w' p v':=fun h1 h2=>
   ⟨_,rfl, .fr _ _ _ fun c hc=>by simp at hc, .fr e (wid t) [] _ [] (fun y hy=>by cases hy) h1 h2 (fun u hu=>by cases hu) fun i p u hi=>by simp at hi⟩
  have zero:∀ a c,v = .slice (some a) 0 c→Calls P f [v].toArray w (fun ex w'=>∃ v p,ex = .returned v∧p=PV.fr e (wid t) (([]++[]:List t.D).map (enc t))∧NoP p∧Rp Z PHeap.empty V0 w' p v∧Below w.heap.size w w'):=fun a c ev=>by
   subst ev
   refine(hz a c w).mono fun ex w' ⟨v',h1,h2,h3⟩=>?_
   obtain⟨p,g1,g2,g3⟩:=fin (v':=v') (w':=w') (Vn (w:=w') h2 hm fun _ _ _=>rfl) fun g hg hz=>by
    have:=(zc8 h2 hg).1
    have:=hZ g (yc.1 hz)
    omega
   exact⟨v',p,h1,g1,g2,g3,h3⟩
  cases hv with
  | nil k a c=>
   cases a with
   | some a=>exact zero a c rfl
   | none=>
    refine(hn c w).mono fun ex w' ⟨h1,h2⟩=>?_
    subst h2
    obtain⟨p,g1,g2,g3⟩:=fin (v' := .slice none 0 0) (w':=w') ⟨by simp, .inl ⟨rfl,rfl⟩⟩ fun g hg=>by cases hg
    exact⟨_,p,h1,g1,g2,g3,Below.refl _ _⟩
  | sl k xs b o c g hu hlen hz' hb h1 h2=>exact zero _ _ rfl
noncomputable def sUg (P:Program) (o:Oper) (E:EF) (G:EG):Option SR:=match o.op with
 | .slice t x (some y) none none=>sSlF (esz P t) G (evE E x) (evE E y)
 | .call ⟨.builtin .copy,⟨[x,y]⟩,⟨[t,_]⟩⟩=>sCpy (esz P t) G (evE E x) (evE E y)
 | .convert t t' x=>match P.underlying t with
  | some (.slice e)=>match zh5 P e with
   | some .u8=>match Yu P t' with
    | true=>sB2S G (evE E x)
    | false=>none
   | _=>none
  | _=>none
 | _=>none
theorem sUg_ok {P:Program} {o:Oper} {E:EF} {G:EG} {q:SR} (h:sUg P o E G=some q):SOk P o E G q:=by
 unfold sUg at h
 split at h<;>try (cases h;done)
 ·rename_i ho;exact jbf ho h
 ·rename_i ho;exact z9p ho h
 ·rename_i ho
  split at h<;>try (cases h;done)
  rename_i hs
  split at h<;>try (cases h;done)
  rename_i he
  split at h<;>try (cases h;done)
  rename_i hd
  refine z97 ho hs (zf3 he) ?_ h
  unfold Yu at hd
  split at hd
  ·assumption
  ·cases hd
noncomputable def z5q (ky:TypeId→Option KY) (prs:Nat→Prm) (fz:Nat→Nat→List (Nat×Ty)) (fr:Nat→Nat→Bool) (T:FuncId→Option FF):Sy1:=fun ctx nid site o E G=>match sUg Tryz.prog o E G with
 | some q=>some q
 | none=>z8w ky prs fz fr T ctx nid site o E G
theorem z8m {ky:TypeId→Option KY} (hky:z8n Tryz.prog ky) {prs:Nat→Prm} {fz:Nat→Nat→List (Nat×Ty)} {fr:Nat→Nat→Bool} {T:FuncId→Option FF} (hT:Zj Tryz.prog T) (hS:∀ c,Jl Tryz.prog (prs c).S) (hzt:∀ c,zdl Tryz.prog (prs c).zt) (hzt2:∀ c,zdl Tryz.prog (prs c).zt2):∀ ctx nid site o E G q,z5q ky prs fz fr T ctx nid site o E G=some q→SOk Tryz.prog o E G q:=fun ctx nid site o E G q h=>by
 unfold z5q at h
 split at h
 ·rename_i q' hq;cases h;exact sUg_ok hq
 ·exact z9i hky hT hS hzt hzt2 _ _ _ _ _ _ _ h
end Go.Proofs.YtdllbdlnmjngcaaGreat.T
